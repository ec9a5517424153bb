/-
  ABS, part J: each operation of the abstract machine is what the model does (five: slices, fields, maps' making). (Own work.)
-/
import Derived.Test.YtohipgnacknkgabGreatHgI
import Derived.Laws.MakeOwn
set_option linter.unusedSimpArgs false
set_option linter.unusedVariables false
namespace Go.Abs
open Go

variable {P : Program}
variable {ρ : Rho} {H H' : AHeap} {w : World} {r : AR} {o : Oper} {io : IOp} {ev : Operand → Value} {ev' : Operand → Option Value}

theorem s_un (hr : Rel P ρ H w) (he : evR ρ ev ev') {op : UnOp} {t : TypeId} {x : Operand} (ho : o.op = .unOp op t x) (hc : cOp P o = some io) (ha : aop io ev' H = some (r, H')) :
    Sound1 P ρ H w r H' ((execOp ev o).run P w) := by
  simp only [cOp, ho, Option.bind_eq_bind, Option.bind_eq_some_iff, Option.pure_def, Option.some.injEq] at hc
  obtain ⟨x', hx', rfl⟩ := hc
  simp only [aop, Option.bind_eq_bind, Option.bind_eq_some_iff] at ha
  obtain ⟨a, ha1, v, hv, ha⟩ := ha
  obtain ⟨rfl, rfl⟩ := val_eq ha
  have h1 := he _ _ _ hx' ha1
  unfold vun at hv
  split at hv
  · obtain rfl := Option.some.inj hv
    exact Sound1.pure hr (x := _) (by simp only [execOp, ho, vr_int h1, Op.unary, Op.intArith, Sem.run_bind, Sem.run_pure, Result.andThen_ok]; rfl) (by simp only [vr])
  · simp only [ibin, Option.some.injEq] at hv
    subst hv
    exact Sound1.pure hr (x := _) (by simp only [execOp, ho, vr_int h1, Op.unary, Op.intBits, Sem.run_bind, Sem.run_pure, Result.andThen_ok]; rfl) (by simp only [vr])
  · obtain rfl := Option.some.inj hv
    exact Sound1.pure hr (x := _) (by simp only [execOp, ho, vr_bool h1, Op.unary, Sem.run_bind, Sem.run_pure, Result.andThen_ok]; rfl) (by simp only [vr])
  · cases hv

theorem s_mkIface (hr : Rel P ρ H w) (he : evR ρ ev ev') {t : TypeId} {x : Operand} (ho : o.op = .makeInterface t x) (hc : cOp P o = some io) (ha : aop io ev' H = some (r, H')) :
    Sound1 P ρ H w r H' ((execOp ev o).run P w) := by
  simp only [cOp, ho] at hc
  split at hc
  · cases hc
  · cases hc
  · rename_i d hn hu
    simp only [Option.bind_eq_bind, Option.bind_eq_some_iff, Option.pure_def, Option.some.injEq] at hc
    obtain ⟨x', hx', rfl⟩ := hc
    simp only [aop, Option.bind_eq_bind, Option.bind_eq_some_iff] at ha
    obtain ⟨a, ha1, ha⟩ := ha
    obtain ⟨rfl, rfl⟩ := val_eq ha
    have h1 := he _ _ _ hx' ha1
    refine Sound1.pure hr (x := .iface t (ev x)) ?_ (by simp only [vr]; exact ⟨_, rfl, h1⟩)
    cases d <;> first
      | (simp only [execOp, ho, Instr.makeInterface, Sem.run_bind, run_underlying' hu, Result.andThen_ok, Sem.run_pure]; done)
      | (exact absurd rfl (hn _))

theorem s_mkFunc (hr : Rel P ρ H w) (he : evR ρ ev ev') {fn : Fn} {first captured : Array Operand} (ho : o.op = .makeFunc fn first captured) (hc : cOp P o = some io) (ha : aop io ev' H = some (r, H')) :
    Sound1 P ρ H w r H' ((execOp ev o).run P w) := by
  cases fn <;> simp only [cOp, ho, reduceCtorEq] at hc
  rename_i f
  simp only [Option.bind_eq_bind, Option.bind_eq_some_iff, Option.pure_def, Option.some.injEq] at hc
  obtain ⟨a, ha1, b, hb1, rfl⟩ := hc
  simp only [aop, Option.bind_eq_bind, Option.bind_eq_some_iff] at ha
  obtain ⟨us, hus, vs, hvs, ha⟩ := ha
  obtain ⟨rfl, rfl⟩ := val_eq ha
  have h1 := opds_vr he ha1 hus
  have h2 := opds_vr he hb1 hvs
  refine Sound1.pure hr (x := .func (.func f) (first.map ev) (captured.map ev)) ?_ ?_
  · simp only [execOp, ho, Instr.makeFunc, Sem.run_bind, Result.andThen_ok, Sem.run_pure]
  · simp only [vr]
    exact ⟨_, _, _, rfl, rfl, vrA_iff.2 h1, vrA_iff.2 h2⟩

theorem s_mkMap (hr : Rel P ρ H w) {t : TypeId} {res : Option Operand} (ho : o.op = .makeMap t res) (hc : cOp P o = some io) (hf : Fresh ρ H H') (ha : aop io ev' H = some (r, H'))
    (hev : ∀ v, ev (.const v) = v) : Sound1 P ρ H w r H' ((execOp ev o).run P w) := by
  have hio : io = .mkMap ∧ (res = none ∨ ∃ k n, res = some (.const (.int k n)) ∧ ∃ a b, P.underlying t = some (.map a b)) := by
    simp only [cOp, ho] at hc
    split at hc <;> simp_all
    split at hc <;> simp_all
  obtain ⟨rfl, hres⟩ := hio
  simp only [aop] at ha
  obtain ⟨rfl, rfl⟩ := val_eq ha
  have h0 : ρ H.size = none := hf _ (Nat.le_refl _) (by simp)
  refine ⟨_, World.push w (.map #[] 0), Ext.alloc hr h0 (.map #[] 0) (.map [] 0) 1 0 ⟨rfl, rfl, #[], push_get w _, rfl⟩, .map (some w.heap.size), ?_, by simp only [vr]; exact ⟨_, upd_same _ _ _, rfl⟩⟩
  rcases hres with rfl | ⟨k, n, rfl, a, b, hu⟩
  · simp only [execOp, ho, Instr.makeMap, Sem.run_bind, Result.andThen_ok, Sem.run_pure, run_newObj, Option.map_none, World.push]
  · simp only [execOp, ho, Instr.makeMap, Sem.run_bind, Result.andThen_ok, Sem.run_pure, run_newObj, Option.map_some, hev, run_underlying' hu, asInt, asIntOf, World.push]

theorem s_mkSlice (hr : Rel P ρ H w) (he : evR ρ ev ev') {t : TypeId} {l c : Operand} (ho : o.op = .makeSlice t l c) (hc : cOp P o = some io) (hf : Fresh ρ H H') (ha : aop io ev' H = some (r, H')) :
    Sound1 P ρ H w r H' ((execOp ev o).run P w) := by
  simp only [cOp, ho] at hc
  split at hc
  · rename_i elem hu
    simp only [Option.bind_eq_bind, Option.bind_eq_some_iff] at hc
    obtain ⟨s, hs, bytes, hb, z, hz, hc⟩ := hc
    split at hc
    · cases hc
    rename_i hcond
    simp only [Bool.or_eq_true, decide_eq_true_eq, not_or, Decidable.not_not] at hcond
    simp only [Option.bind_eq_some_iff, Option.pure_def, Option.some.injEq] at hc
    obtain ⟨l', hl', c', hc', rfl⟩ := hc
    simp only [aop] at ha
    split at ha
    · rename_i k1 n1 k2 n2 hv1 hv2
      split at ha
      · rename_i hle
        obtain ⟨rfl, rfl⟩ := val_eq ha
        obtain ⟨h1, h2, h3⟩ := hle
        have e1 := vr_int (he _ _ _ hl' hv1)
        have e2 := vr_int (he _ _ _ hc' hv2)
        have h0 : ρ H.size = none := hf _ (Nat.le_refl _) (by simp)
        obtain ⟨⟨hzs, hs0⟩, hb0⟩ := hcond
        have hn2 : 0 ≤ n2 := by omega
        have hb1 : (1 : Int) ≤ bytes := by omega
        have hle2 : n2 ≤ 281474976710656 := by
          have : n2 * 1 ≤ n2 * bytes := Int.mul_le_mul_of_nonneg_left hb1 hn2
          rw [Int.mul_comm bytes n2] at h3
          omega
        unfold tbytes at hb
        obtain ⟨inf, hinf, rfl⟩ := Option.map_eq_some_iff.1 hb
        have hsz : inf.size = s := by
          unfold tsize at hs
          rw [hinf] at hs
          simpa using hs
        obtain ⟨z', hz'⟩ : ∃ z', inf.zero = some z' := by
          unfold tzero at hz
          rw [hinf] at hz
          cases h : inf.zero with
          | none => simp [h] at hz
          | some z' => exact ⟨z', rfl⟩
        have hzz : z' = z := by
          unfold tzero at hz
          rw [hinf] at hz
          simp only [Option.bind_some, hz'] at hz
          split at hz
          · exact Option.some.inj hz
          · cases hz
        subst hzz
        let ys : Array Value := (Array.range (n2.toNat * s)).map (z'.cells[· % z'.cells.size]!)
        have hext := Rel.newCells hr h0 (ys := ys) (zeros_vr (ρ := ρ) (tzero_flat hz) hzs (n := n2.toNat * s) (.inl (by omega))) elem s #[]
        have hrun := run_make (P := P) w t elem inf z' hu hinf hz' k1 k2 n1 n2 h1 h2 (by omega) (by omega)
        refine ⟨_, _, by simpa using hext, .slice (some ⟨w.heap.size, 0, none⟩) n1.toNat n2.toNat, ?_, ?_⟩
        · simp only [execOp, ho, Sem.run_bind, e1, e2, hrun, Result.andThen_ok, Sem.run_pure, hsz]
          rfl
        · unfold vr slr
          exact ⟨rfl, _, upd_same _ _ _, .inl ⟨by simp only [openCap]; omega, by omega, rfl⟩⟩
      · cases ha
    · cases ha
  · cases hc


/-! ### Slices -/
theorem bound1_le {v : Option Value} {d y n : Nat} (h : bound1 v d y = some n) (hd : d ≤ y) : n ≤ y := by
  cases v with
  | none => simp only [bound1, Option.some.injEq] at h; omega
  | some a =>
    cases a <;> simp only [bound1, reduceCtorEq] at h
    split at h
    · obtain rfl := Option.some.inj h; omega
    · cases h

/-- The bound may be a greater one. -/
theorem bound1_up {v : Option Value} {d y y' n : Nat} (h : bound1 v d y = some n) (hy : y ≤ y') : bound1 v d y' = some n := by
  cases v with
  | none => exact h
  | some a =>
    cases a <;> simp only [bound1, reduceCtorEq] at h ⊢
    split at h
    · rename_i hi; rw [if_pos (by omega)]; exact h
    · cases h

theorem aBounds_spec {len cap l h m : Nat} {lo hi mx : Option Value} (e : aBounds len cap lo hi mx = some (l, h, m)) (hlc : len ≤ cap) :
    bound1 mx cap cap = some m ∧ bound1 hi len m = some h ∧ bound1 lo 0 h = some l ∧ m ≤ cap ∧ (mx = none → m = cap) ∧ (mx = none → h ≤ m) ∧ l ≤ h ∧ (hi.isSome = true → h ≤ m) := by
  unfold aBounds at e
  split at e
  · rename_i m' h1
    split at e
    · rename_i h' h2
      split at e
      · rename_i l' h3
        simp only [Option.some.injEq, Prod.mk.injEq] at e
        obtain ⟨rfl, rfl, rfl⟩ := e
        have hm : mx = none → m' = cap := by
          intro h; subst h; simp only [bound1, Option.some.injEq] at h1; exact h1.symm
        refine ⟨h1, h2, h3, bound1_le h1 (Nat.le_refl _), hm, fun h => bound1_le h2 (by rw [hm h]; exact hlc), bound1_le h3 (Nat.zero_le _), fun hh => ?_⟩
        cases hi with
        | none => cases hh
        | some a =>
          cases a <;> simp only [bound1, reduceCtorEq] at h2
          split at h2
          · obtain rfl := Option.some.inj h2; omega
          · cases h2
      · cases e
    · cases e
  · cases e

/-- A bound, as the model asks for it. -/
def boundSem (x : Option Value) (dflt y : Nat) (code : BoundsCode) : Sem Nat :=
  match x with
  | some b => Instr.sliceBound b y code
  | none => pure dflt

def optR (ρ : Rho) (v x : Option Value) : Prop := (∀ a, v = some a → ∃ b, x = some b ∧ vr ρ a b) ∧ (v = none → x = none)

theorem bound_run {v : Option Value} {x : Option Value} {dflt y n : Nat} {code : BoundsCode} (h : bound1 v dflt y = some n) (hv : optR ρ v x) :
    (boundSem x dflt y code).run P w = .ok n w := by
  unfold boundSem
  cases v with
  | none =>
    have := hv.2 rfl
    subst this
    simp only [bound1, Option.some.injEq] at h
    subst h
    rfl
  | some a =>
    obtain ⟨b, hx, hb⟩ := hv.1 a rfl
    subst hx
    cases a <;> simp only [bound1, reduceCtorEq] at h
    rename_i k i
    split at h
    · rename_i hi
      obtain rfl := Option.some.inj h
      rw [vr_int hb]
      simp only [Instr.sliceBound, asIntOf, Sem.run_bind, Sem.run_pure, Result.andThen_ok, if_pos hi]
    · cases h

theorem evo_some (he : evR ρ ev ev') {x : Option Operand} {y : Option Operand} {v : Option Value} (hc : cOpt x = some y) (hv : evo ev' y = some v) : optR ρ v (x.map ev) := by
  cases x with
  | none =>
    simp only [cOpt, Option.some.injEq] at hc
    subst hc
    simp only [evo, Option.some.injEq] at hv
    subst hv
    refine ⟨fun a h => ?_, fun _ => rfl⟩
    cases h
  | some x =>
    simp only [cOpt, Option.map_eq_some_iff] at hc
    obtain ⟨y', hy', rfl⟩ := hc
    simp only [evo, Option.map_eq_some_iff] at hv
    obtain ⟨a, ha, rfl⟩ := hv
    refine ⟨fun b h => ?_, fun h => ?_⟩
    · obtain rfl := Option.some.inj h
      exact ⟨_, rfl, he _ _ _ hy' ha⟩
    · cases h

theorem evo_isSome {x : Option Operand} {y : Option Operand} {v : Option Value} (hc : cOpt x = some y) (hv : evo ev' y = some v) : v.isSome = x.isSome := by
  cases x with
  | none =>
    simp only [cOpt, Option.some.injEq] at hc
    subst hc
    simp only [evo, Option.some.injEq] at hv
    subst hv
    rfl
  | some x =>
    simp only [cOpt, Option.map_eq_some_iff] at hc
    obtain ⟨y', hy', rfl⟩ := hc
    simp only [evo, Option.map_eq_some_iff] at hv
    obtain ⟨a, ha, rfl⟩ := hv
    rfl

theorem sliceBounds_run {isSlice : Bool} {len cap m h l : Nat} {lo hi mx : Option Value} {lo' hi' mx' : Option Value}
    (h1 : bound1 mx cap cap = some m) (h2 : bound1 hi len m = some h) (h3 : bound1 lo 0 h = some l) (hmx : mx.isSome = true → hi.isSome = true)
    (r1 : optR ρ mx mx') (r2 : optR ρ hi hi') (r3 : optR ρ lo lo') :
    (Instr.sliceBounds isSlice len cap lo' hi' mx').run P w = .ok (l, h, m) w := by
  have a1 : ∀ code, (boundSem mx' cap cap code).run P w = .ok m w := fun code => bound_run h1 r1
  have a2 : ∀ code, (boundSem hi' len m code).run P w = .ok h w := fun code => bound_run h2 r2
  have a3 : ∀ code, (boundSem lo' 0 h code).run P w = .ok l w := fun code => bound_run h3 r3
  have hmx' : mx'.isSome = true → hi'.isSome = true := by
    intro hh
    cases mx with
    | none => rw [r1.2 rfl] at hh; cases hh
    | some e =>
      have := hmx rfl
      cases hi with
      | none => cases this
      | some c => obtain ⟨d, rfl, _⟩ := r2.1 c rfl; rfl
  unfold boundSem at a1 a2 a3
  unfold Instr.sliceBounds
  cases mx' <;> cases hi' <;> cases lo' <;> simp at hmx' <;> simp at a1 a2 a3 <;> simp_all

theorem s_slice (hr : Rel P ρ H w) (he : evR ρ ev ev') {t : TypeId} {x : Operand} {lo hi mx : Option Operand} (ho : o.op = .slice t x lo hi mx) (hc : cOp P o = some io) (ha : aop io ev' H = some (r, H')) :
    Sound1 P ρ H w r H' ((execOp ev o).run P w) := by
  simp only [cOp, ho] at hc
  split at hc
  · -- an array's address
    rename_i n elem hu
    split at hc
    · cases hc
    rename_i hno
    simp only [Option.bind_eq_bind, Option.bind_eq_some_iff, Option.pure_def, Option.some.injEq] at hc
    obtain ⟨s, hs, x', hx', lo', hlo, hi', hhi, mx', hmx, rfl⟩ := hc
    simp only [aop] at ha
    split at ha
    · rename_i _ _ _ _ a lov hiv hv1 hv2 hv3 hv4
      split at ha
      · rename_i l h m hb
        obtain ⟨rfl, rfl⟩ := val_eq ha
        obtain ⟨b1, b2, b3, b4, b5, b6, b7, _⟩ := aBounds_spec hb (Nat.le_refl _)
        have h1 := he _ _ _ hx' hv1
        simp only [vr] at h1
        obtain ⟨y, e1, hay⟩ := h1
        have hbr := sliceBounds_run (P := P) (w := w) (ρ := ρ) (isSlice := false) b1 b2 b3 (by simp) (evo_some he hmx hv4) (evo_some he hhi hv3) (evo_some he hlo hv2)
        refine Sound1.pure hr (x := .slice (some (if m = l then y else y.add (l * s))) (h - l) (m - l)) ?_ ?_
        · simp only [execOp, ho, Instr.sliceAt, Sem.run_bind, run_underlying' hu, Result.andThen_ok, e1, Instr.sureAddr, Sem.run_pure, hbr, run_sizeOf' hs]
        · have hadd : addrr ρ (if m = l then a else a.add (l * s)) (if m = l then y else y.add (l * s)) := by
            split
            · exact hay
            · exact addrr_add hay _
          unfold vr slr
          obtain ⟨g1, p, g2, g3⟩ := hadd
          have := b6 rfl
          exact ⟨g1, p, g2, .inl ⟨by omega, by omega, by rw [g3]⟩⟩
      · cases ha
    · cases ha
  · -- a string
    rename_i hu
    split at hc
    · cases hc
    · rename_i hmx
      simp only [Option.bind_eq_bind, Option.bind_eq_some_iff, Option.pure_def, Option.some.injEq] at hc
      obtain ⟨x', hx', lo', hlo, hi', hhi, rfl⟩ := hc
      simp only [aop] at ha
      split at ha
      · rename_i _ _ _ b lov hiv hv1 hv2 hv3
        split at ha
        · rename_i l h m hb
          obtain ⟨rfl, rfl⟩ := val_eq ha
          obtain ⟨b1, b2, b3, b4, b5, b6, b7, _⟩ := aBounds_spec hb (Nat.le_refl _)
          have e1 := vr_str (he _ _ _ hx' hv1)
          have hmx' : mx = none := by simpa using hmx
          have hnone : optR ρ none none := by
            refine ⟨fun a h => ?_, fun _ => rfl⟩
            cases h
          have hbr := sliceBounds_run (P := P) (w := w) (ρ := ρ) (isSlice := false) b1 b2 b3 (by simp) hnone (evo_some he hhi hv3) (evo_some he hlo hv2)
          refine Sound1.pure hr (x := .string (b.extract l h)) ?_ (by simp only [vr])
          simp only [execOp, ho, Instr.sliceAt, Instr.slice, Sem.run_bind, run_underlying' hu, Result.andThen_ok, e1, hmx', Option.map_none, Option.isSome_none, Bool.false_eq_true, if_false, hbr, Sem.run_pure]
        · cases ha
      · cases ha
  · -- a slice
    rename_i elem hu
    split at hc
    · cases hc
    · rename_i hmxhi
      simp only [Option.bind_eq_bind, Option.bind_eq_some_iff, Option.pure_def, Option.some.injEq] at hc
      obtain ⟨s, hs, x', hx', lo', hlo, hi', hhi, mx', hmx, rfl⟩ := hc
      have hmh : ∀ {mxv hiv : Option Value}, evo ev' mx' = some mxv → evo ev' hi' = some hiv → mxv.isSome = true → hiv.isSome = true := by
        intro mxv hiv hv4 hv3
        rw [evo_isSome hmx hv4, evo_isSome hhi hv3]
        intro h
        cases hi with
        | none => simp [h] at hmxhi
        | some _ => rfl
      have e0 : ∀ (ao : Option Addr) (len' cap' l h m' : Nat), ev x = .slice ao len' cap' → (Instr.sliceBounds true len' cap' (lo.map ev) (hi.map ev) (mx.map ev)).run P w = .ok (l, h, m') w →
          (execOp ev o).run P w = .ok (.value (.slice (if m' = l then ao else ao.map (·.add (l * s))) (h - l) (m' - l))) w := by
        intro ao len' cap' l h m' e1 hbr
        simp only [execOp, ho, Instr.sliceAt, Instr.slice, Sem.run_bind, run_underlying' hu, Result.andThen_ok, e1, hbr, run_sizeOf' hs, Sem.run_pure]
      simp only [aop] at ha
      split at ha
      · rename_i _ _ _ _ len cap lov hiv mxv hv1 hv2 hv3 hv4
        split at ha
        · rename_i l h m hb
          obtain ⟨rfl, rfl⟩ := val_eq ha
          have h1 := he _ _ _ hx' hv1
          simp only [vr] at h1
          have hb' : bound1 mxv cap cap = some m ∧ bound1 hiv len m = some h ∧ bound1 lov 0 h = some l := by
            unfold aBounds at hb
            split at hb
            · split at hb
              · split at hb
                · simp only [Option.some.injEq, Prod.mk.injEq] at hb
                  obtain ⟨rfl, rfl, rfl⟩ := hb
                  exact ⟨‹_›, ‹_›, ‹_›⟩
                · cases hb
              · cases hb
            · cases hb
          have hbr := sliceBounds_run (P := P) (w := w) (ρ := ρ) (isSlice := true) hb'.1 hb'.2.1 hb'.2.2 (hmh hv4 hv3) (evo_some he hmx hv4) (evo_some he hhi hv3) (evo_some he hlo hv2)
          refine Sound1.pure hr (x := .slice none (h - l) (m - l)) ?_ (by simp only [vr])
          rw [e0 none len cap l h m h1 hbr]
          simp
        · cases ha
      · rename_i _ _ _ _ a len cap lov hiv mxv hv1 hv2 hv3 hv4
        have h1 := he _ _ _ hx' hv1
        simp only [vr] at h1
        obtain ⟨g1, p, g2, g3⟩ := h1
        split at ha
        · rename_i hco
          subst hco
          split at ha
          · rename_i l h m cs ro sz hb hg
            split at ha
            · rename_i hsz
              subst hsz
              have hpsz : p.sz = sz := by obtain ⟨_, _, _, _, _, _, h, _⟩ := hr.obj _ p _ g2 hg; exact h
              obtain ⟨b1, b2, b3, b4, b5, b6, b7, b8⟩ := aBounds_spec hb (Nat.le_refl _)
              split at ha
              · -- no third bound
                have hm := b5 rfl
                subst hm
                have b6' := b6 rfl
                split at ha
                · rename_i hl0
                  subst hl0
                  obtain ⟨rfl, rfl⟩ := val_eq ha
                  have hh0 : h = 0 := by omega
                  have hll0 : l = 0 := by omega
                  subst hh0 hll0
                  rcases g3 with ⟨g, _⟩ | ⟨_, cap', g4, g5, g6, g7⟩ | ⟨_, _, y, g7⟩
                  · exact absurd g (Nat.lt_irrefl _)
                  · have hbr := sliceBounds_run (P := P) (w := w) (ρ := ρ) (isSlice := true) (cap := cap') (m := cap') (mx := none) rfl (bound1_up b2 g6) b3 (by simp) (evo_some he hmx hv4) (evo_some he hhi hv3) (evo_some he hlo hv2)
                    refine Sound1.pure hr (x := ev x) ?_ ?_
                    · rw [e0 _ 0 cap' 0 0 cap' g7 hbr, g7]
                      simp [Addr.add]
                    · unfold vr slr
                      exact ⟨g1, p, g2, .inr (.inl ⟨rfl, cap', g4, g5, g6, g7⟩)⟩
                  · have hbr := sliceBounds_run (P := P) (w := w) (ρ := ρ) (isSlice := true) (cap := 0) (m := 0) (mx := none) rfl b2 b3 (by simp) (evo_some he hmx hv4) (evo_some he hhi hv3) (evo_some he hlo hv2)
                    refine Sound1.pure hr (x := ev x) ?_ ?_
                    · rw [e0 _ 0 0 0 0 0 g7 hbr, g7]
                      simp
                    · unfold vr slr
                      exact ⟨g1, p, g2, .inr (.inr ⟨rfl, rfl, y, g7⟩)⟩
                · rename_i hl0
                  obtain ⟨rfl, rfl⟩ := val_eq ha
                  rcases g3 with ⟨g, _⟩ | ⟨_, cap', g4, g5, g6, g7⟩ | ⟨_, g, _⟩
                  · exact absurd g (Nat.lt_irrefl _)
                  · have hbr := sliceBounds_run (P := P) (w := w) (ρ := ρ) (isSlice := true) (cap := cap') (m := cap') (mx := none) rfl (bound1_up b2 g6) b3 (by simp) (evo_some he hmx hv4) (evo_some he hhi hv3) (evo_some he hlo hv2)
                    refine Sound1.pure hr (x := _) (e0 _ m cap' l h cap' g7 hbr) ?_
                    unfold vr slr
                    rw [add_addr a _ g1]
                    refine ⟨rfl, p, g2, ?_⟩
                    by_cases hcl : cap' = l
                    · right; right
                      refine ⟨rfl, by omega, ⟨p.B, p.base + a.off, none⟩, ?_⟩
                      rw [if_pos hcl, show h - l = 0 by omega, show cap' - l = 0 by omega]
                    · right; left
                      refine ⟨rfl, cap' - l, ?_, g5, by omega, ?_⟩
                      · simp only
                        rw [← g4, hpsz, Nat.sub_mul]
                        have : l * sz ≤ cap' * sz := Nat.mul_le_mul_right _ (by omega)
                        omega
                      · rw [if_neg hcl]
                        simp only [Option.map_some]
                        rw [add_addr _ _ rfl]
                        simp [Nat.add_assoc]
                  · exact absurd g hl0
              · -- a third bound
                rename_i mv
                split at ha
                · cases ha
                · rename_i hl0
                  obtain ⟨rfl, rfl⟩ := val_eq ha
                  have hhs := hmh hv4 hv3 rfl
                  rcases g3 with ⟨g, _⟩ | ⟨_, cap', g4, g5, g6, g7⟩ | ⟨_, g, _⟩
                  · exact absurd g (Nat.lt_irrefl _)
                  · have hb1' : bound1 (some mv) cap' cap' = some m := by
                      have := bound1_up b1 g6
                      cases mv <;> simp only [bound1, reduceCtorEq] at this ⊢
                      exact this
                    have hb2' : bound1 hiv len m = some h := b2
                    have hbr := sliceBounds_run (P := P) (w := w) (ρ := ρ) (isSlice := true) (cap := cap') (m := m) hb1' hb2' b3 (fun _ => hhs) (evo_some he hmx hv4) (evo_some he hhi hv3) (evo_some he hlo hv2)
                    refine Sound1.pure hr (x := _) (e0 _ len cap' l h m g7 hbr) ?_
                    have hmo : m < openCap := by omega
                    have hhm := b8 hhs
                    unfold vr slr
                    by_cases hml : m = l
                    · simp only [hml, if_true]
                      exact ⟨g1, p, g2, .inl ⟨by simp [openCap], by omega, by simp⟩⟩
                    · simp only [if_neg hml]
                      rw [add_addr a _ g1]
                      refine ⟨rfl, p, g2, .inl ⟨by omega, by omega, ?_⟩⟩
                      simp only [Option.map_some]
                      rw [add_addr _ _ rfl]
                      simp [Nat.add_assoc]
                  · exact absurd g (fun e => hl0 (.inl e))
            · cases ha
          · cases ha
        · rename_i hco
          split at ha
          · rename_i l h m hb
            obtain ⟨rfl, rfl⟩ := val_eq ha
            rcases g3 with ⟨g4, g5, g7⟩ | ⟨g, _⟩ | ⟨g, _⟩
            · obtain ⟨b1, b2, b3, b4, b5, b6, b7, b8⟩ := aBounds_spec hb g5
              have hhm : h ≤ m := by
                cases mxv with
                | none => exact b6 rfl
                | some _ => exact b8 (hmh hv4 hv3 rfl)
              have hbr := sliceBounds_run (P := P) (w := w) (ρ := ρ) (isSlice := true) b1 b2 b3 (hmh hv4 hv3) (evo_some he hmx hv4) (evo_some he hhi hv3) (evo_some he hlo hv2)
              refine Sound1.pure hr (x := _) (e0 _ len cap l h m g7 hbr) ?_
              unfold vr slr
              by_cases hml : m = l
              · simp only [hml, if_true]
                exact ⟨g1, p, g2, .inl ⟨by simp [openCap], by omega, by simp⟩⟩
              · simp only [if_neg hml]
                rw [add_addr a _ g1]
                refine ⟨rfl, p, g2, .inl ⟨by omega, by omega, ?_⟩⟩
                simp only [Option.map_some]
                rw [add_addr _ _ rfl]
                simp [Nat.add_assoc]
            · exact absurd g hco
            · exact absurd g hco
          · cases ha
      · cases ha
  · cases hc

end Go.Abs
