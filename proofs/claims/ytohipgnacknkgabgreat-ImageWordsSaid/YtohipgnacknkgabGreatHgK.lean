/-
  ABS, part K: each operation of the abstract machine is what the model does (six: places, maps, calls). (Own work.)
-/
import Derived.Test.YtohipgnacknkgabGreatHgJ
set_option linter.unusedSimpArgs false
set_option linter.unusedVariables false
namespace Go.Abs
open Go

variable {P : Program}
variable {ρ : Rho} {H H' : AHeap} {w : World} {r : AR} {o : Oper} {io : IOp} {ev : Operand → Value} {ev' : Operand → Option Value}

theorem s_fieldAddr (hr : Rel P ρ H w) (he : evR ρ ev ev') {t : TypeId} {x : Operand} {f : Nat} (ho : o.op = .fieldAddr t x f) (hc : cOp P o = some io) (ha : aop io ev' H = some (r, H')) :
    Sound1 P ρ H w r H' ((execOp ev o).run P w) := by
  simp only [cOp, ho] at hc
  split at hc
  · rename_i fields hu
    simp only [Option.bind_eq_bind, Option.bind_eq_some_iff] at hc
    obtain ⟨g, hg, n, hn, hc⟩ := hc
    split at hc
    · cases hc
    rename_i hn0
    simp only [Option.bind_eq_some_iff, Option.pure_def, Option.some.injEq] at hc
    obtain ⟨x', hx', rfl⟩ := hc
    simp only [aop] at ha
    split at ha
    · rename_i a hv
      obtain ⟨rfl, rfl⟩ := val_eq ha
      have h1 := he _ _ _ hx' hv
      simp only [vr] at h1
      obtain ⟨y, e, hay⟩ := h1
      refine Sound1.pure hr (x := .pointer (some (y.add g.offset))) ?_ (by simp only [vr]; exact ⟨_, rfl, addrr_add hay _⟩)
      simp only [execOp, ho, Instr.fieldAt, Sem.run_bind, run_underlying' hu, Result.andThen_ok, hg, e, Instr.sureAddr, Sem.run_pure, fieldPlace, run_sizeOf' hn, if_neg hn0]
    · cases ha
  · cases hc

theorem s_field (hr : Rel P ρ H w) (he : evR ρ ev ev') {t : TypeId} {x : Operand} {f : Nat} (ho : o.op = .field t x f) (hc : cOp P o = some io) (ha : aop io ev' H = some (r, H')) :
    Sound1 P ρ H w r H' ((execOp ev o).run P w) := by
  simp only [cOp, ho] at hc
  split at hc
  · rename_i fields hu
    simp only [Option.bind_eq_bind, Option.bind_eq_some_iff] at hc
    obtain ⟨g, hg, hc⟩ := hc
    split at hc
    · rename_i hag
      simp only [Option.bind_eq_some_iff, Option.pure_def, Option.some.injEq] at hc
      obtain ⟨n, hn, x', hx', rfl⟩ := hc
      simp only [aop] at ha
      split at ha
      · rename_i cs hv
        obtain ⟨rfl, rfl⟩ := val_eq ha
        have h1 := he _ _ _ hx' hv
        simp only [vr] at h1
        obtain ⟨ds, e, hds⟩ := h1
        obtain ⟨y, hy, hyr⟩ := part_ok (w := w) hag hn (vrA_iff.1 hds) (off := g.offset) (v := .agg ((cs.toList.drop g.offset).take n).toArray) (by simp [partL])
        refine Sound1.pure hr (x := y) ?_ hyr
        simp only [execOp, ho, Instr.field, Sem.run_bind, run_underlying' hu, Result.andThen_ok, hg, e, asAgg, Sem.run_pure, hy]
      · cases ha
    · rename_i hag
      simp only [Option.bind_eq_some_iff, Option.pure_def, Option.some.injEq] at hc
      obtain ⟨x', hx', rfl⟩ := hc
      simp only [aop] at ha
      split at ha
      · rename_i cs hv
        simp only [Option.bind_eq_bind, Option.bind_eq_some_iff] at ha
        obtain ⟨v, hv2, ha⟩ := ha
        obtain ⟨rfl, rfl⟩ := val_eq ha
        have h1 := he _ _ _ hx' hv
        simp only [vr] at h1
        obtain ⟨ds, e, hds⟩ := h1
        obtain ⟨y, hy, hyr⟩ := vrL_get (vrA_iff.1 hds) hv2
        have hy' : ds[g.offset]? = some y := by simpa using hy
        refine Sound1.pure hr (x := y) ?_ hyr
        simp only [execOp, ho, Instr.field, Sem.run_bind, run_underlying' hu, Result.andThen_ok, hg, e, asAgg, Sem.run_pure, part, run_isAgg' hag, Bool.false_eq_true, if_false, hy']
      · cases ha
    · cases hc
  · cases hc

theorem s_indexAddr (hr : Rel P ρ H w) (he : evR ρ ev ev') {t : TypeId} {x i : Operand} (ho : o.op = .indexAddr t x i) (hc : cOp P o = some io) (ha : aop io ev' H = some (r, H')) :
    Sound1 P ρ H w r H' ((execOp ev o).run P w) := by
  simp only [cOp, ho] at hc
  split at hc
  · rename_i elem hu
    simp only [Option.bind_eq_bind, Option.bind_eq_some_iff, Option.pure_def, Option.some.injEq] at hc
    obtain ⟨s, hs, x', hx', i', hi', rfl⟩ := hc
    simp only [aop] at ha
    split at ha
    · rename_i a len cap k n hv1 hv2
      split at ha
      · rename_i hin
        obtain ⟨rfl, rfl⟩ := val_eq ha
        have h1 := he _ _ _ hx' hv1
        have e2 := vr_int (he _ _ _ hi' hv2)
        simp only [vr] at h1
        obtain ⟨y, c', e1, hay⟩ : ∃ y c', ev x = .slice (some y) len c' ∧ addrr ρ a y := by
          obtain ⟨g1, p, g2, h⟩ := h1
          rcases h with ⟨_, _, h⟩ | ⟨_, _, _, _, _, h⟩ | ⟨_, h0, _⟩
          · exact ⟨_, _, h, g1, p, g2, rfl⟩
          · exact ⟨_, _, h, g1, p, g2, rfl⟩
          · omega
        refine Sound1.pure hr (x := .pointer (some (y.add (n.toNat * s)))) ?_ (by simp only [vr]; exact ⟨_, rfl, addrr_add hay _⟩)
        simp only [execOp, ho, Instr.indexAt, Sem.run_bind, asIntOf, e2, Sem.run_pure, run_underlying' hu, Result.andThen_ok, e1, if_pos hin, run_sizeOf' hs]
      · cases ha
    · cases ha
  · rename_i len elem hu
    simp only [Option.bind_eq_bind, Option.bind_eq_some_iff, Option.pure_def, Option.some.injEq] at hc
    obtain ⟨s, hs, x', hx', i', hi', rfl⟩ := hc
    simp only [aop] at ha
    split at ha
    · rename_i a k n hv1 hv2
      split at ha
      · rename_i hin
        obtain ⟨rfl, rfl⟩ := val_eq ha
        have h1 := he _ _ _ hx' hv1
        have e2 := vr_int (he _ _ _ hi' hv2)
        simp only [vr] at h1
        obtain ⟨y, e1, hay⟩ := h1
        refine Sound1.pure hr (x := .pointer (some (y.add (n.toNat * s)))) ?_ (by simp only [vr]; exact ⟨_, rfl, addrr_add hay _⟩)
        simp only [execOp, ho, Instr.indexAt, Sem.run_bind, asIntOf, e2, Sem.run_pure, run_underlying' hu, Result.andThen_ok, e1, Instr.sureAddr, if_pos hin, run_sizeOf' hs]
      · cases ha
    · cases ha
  · cases hc

theorem s_index (hr : Rel P ρ H w) (he : evR ρ ev ev') {t : TypeId} {x i : Operand} (ho : o.op = .index t x i) (hc : cOp P o = some io) (ha : aop io ev' H = some (r, H')) :
    Sound1 P ρ H w r H' ((execOp ev o).run P w) := by
  simp only [cOp, ho] at hc
  split at hc
  · rename_i hu
    simp only [Option.bind_eq_bind, Option.bind_eq_some_iff, Option.pure_def, Option.some.injEq] at hc
    obtain ⟨x', hx', i', hi', rfl⟩ := hc
    simp only [aop] at ha
    split at ha
    · rename_i b k n hv1 hv2
      split at ha
      · rename_i hn
        split at ha
        · rename_i c hc'
          obtain ⟨rfl, rfl⟩ := val_eq ha
          have e1 := vr_str (he _ _ _ hx' hv1)
          have e2 := vr_int (he _ _ _ hi' hv2)
          refine Sound1.pure hr (x := .int .u8 c.toNat) ?_ (by simp only [vr])
          have e3 : b[n.toNat]? = some c := by
            have hlt : n.toNat < b.size := by
              have := (List.getElem?_eq_some_iff.1 hc').1
              simpa using this
            rw [getElem?_pos b n.toNat hlt]
            have := (List.getElem?_eq_some_iff.1 hc').2
            congr 1
          simp only [execOp, ho, Instr.index, Sem.run_bind, asIntOf, e2, Sem.run_pure, run_underlying' hu, Result.andThen_ok, e1, if_pos hn, e3]
        · cases ha
      · cases ha
    · cases ha
  · rename_i len elem hu
    split at hc
    · rename_i hag
      simp only [Option.bind_eq_bind, Option.bind_eq_some_iff, Option.pure_def, Option.some.injEq] at hc
      obtain ⟨s, hs, x', hx', i', hi', rfl⟩ := hc
      simp only [aop] at ha
      split at ha
      · rename_i cs k n hv1 hv2
        split at ha
        · rename_i hin
          obtain ⟨rfl, rfl⟩ := val_eq ha
          have h1 := he _ _ _ hx' hv1
          have e2 := vr_int (he _ _ _ hi' hv2)
          simp only [vr] at h1
          obtain ⟨ds, e, hds⟩ := h1
          obtain ⟨y, hy, hyr⟩ := part_ok (w := w) hag hs (vrA_iff.1 hds) (off := n.toNat * s) (v := .agg ((cs.toList.drop (n.toNat * s)).take s).toArray) (by simp [partL])
          refine Sound1.pure hr (x := y) ?_ hyr
          simp only [execOp, ho, Instr.index, Sem.run_bind, asIntOf, e2, Sem.run_pure, run_underlying' hu, Result.andThen_ok, e, if_pos hin, run_sizeOf' hs, hy]
        · cases ha
      · cases ha
    · rename_i hag
      simp only [Option.bind_eq_bind, Option.bind_eq_some_iff, Option.pure_def, Option.some.injEq] at hc
      obtain ⟨s, hs, x', hx', i', hi', rfl⟩ := hc
      simp only [aop] at ha
      split at ha
      · rename_i cs k n hv1 hv2
        split at ha
        · rename_i hin
          simp only [Option.bind_eq_bind, Option.bind_eq_some_iff] at ha
          obtain ⟨v, hv3, ha⟩ := ha
          obtain ⟨rfl, rfl⟩ := val_eq ha
          have h1 := he _ _ _ hx' hv1
          have e2 := vr_int (he _ _ _ hi' hv2)
          simp only [vr] at h1
          obtain ⟨ds, e, hds⟩ := h1
          obtain ⟨y, hy, hyr⟩ := part_ok (w := w) hag hs (vrA_iff.1 hds) (off := n.toNat * s) (v := v) (by simpa [partL] using hv3)
          refine Sound1.pure hr (x := y) ?_ hyr
          simp only [execOp, ho, Instr.index, Sem.run_bind, asIntOf, e2, Sem.run_pure, run_underlying' hu, Result.andThen_ok, e, if_pos hin, run_sizeOf' hs, hy]
        · cases ha
      · cases ha
    · cases hc
  · cases hc

theorem s_extract (hr : Rel P ρ H w) (he : evR ρ ev ev') {x : Operand} {i : Nat} (ho : o.op = .extract x i) (hc : cOp P o = some io) (ha : aop io ev' H = some (r, H')) :
    Sound1 P ρ H w r H' ((execOp ev o).run P w) := by
  simp only [cOp, ho, Option.bind_eq_bind, Option.bind_eq_some_iff, Option.pure_def, Option.some.injEq] at hc
  obtain ⟨x', hx', rfl⟩ := hc
  simp only [aop] at ha
  split at ha
  · rename_i vs hv
    simp only [Option.bind_eq_bind, Option.bind_eq_some_iff] at ha
    obtain ⟨v, hv2, ha⟩ := ha
    obtain ⟨rfl, rfl⟩ := val_eq ha
    have h1 := he _ _ _ hx' hv
    simp only [vr] at h1
    obtain ⟨ds, e, hds⟩ := h1
    obtain ⟨y, hy, hyr⟩ := vrL_get (vrA_iff.1 hds) hv2
    have hy' : ds[i]? = some y := by simpa using hy
    refine Sound1.pure hr (x := y) ?_ hyr
    simp only [execOp, ho, Instr.extract, e, hy', Sem.run_bind, Sem.run_pure, Result.andThen_ok]
  · cases ha

theorem s_typeAssert (hr : Rel P ρ H w) (he : evR ρ ev ev') {x : Operand} {t u : TypeId} {ok : Bool} (ho : o.op = .typeAssert x t u ok) (hc : cOp P o = some io) (ha : aop io ev' H = some (r, H')) :
    Sound1 P ρ H w r H' ((execOp ev o).run P w) := by
  simp only [cOp, ho] at hc
  split at hc
  · cases hc
  · cases hc
  · rename_i d hn hu
    simp only [Option.bind_eq_bind, Option.bind_eq_some_iff, Option.pure_def, Option.some.injEq] at hc
    obtain ⟨z, hz, x', hx', rfl⟩ := hc
    have hzf := flat_vr ρ z (tzero_flat hz)
    simp only [aop] at ha
    have hni : ∀ ms, d ≠ .interface ms := fun ms e => hn ms (by rw [e])
    split at ha
    · rename_i v y hv
      have h1 := he _ _ _ hx' hv
      simp only [vr] at h1
      obtain ⟨y', e, hy'⟩ := h1
      split at ha
      · rename_i hvu
        subst hvu
        obtain ⟨rfl, rfl⟩ := val_eq ha
        refine Sound1.pure hr (x := if ok then .tuple #[y', .bool true] else y') ?_ ?_
        · cases d <;> first
            | (exact absurd rfl (hni _))
            | (simp only [execOp, ho, Instr.typeAssert, Sem.run_bind, run_underlying' hu, Result.andThen_ok, e, if_true, Sem.run_pure]; done)
        · cases ok
          · simpa using hy'
          · simp only [if_true, vr]
            exact ⟨_, rfl, by simp only [vrA, vrL]; exact ⟨_, _, rfl, hy', _, _, rfl, by simp only [vr], rfl⟩⟩
      · rename_i hvu
        split at ha
        · rename_i hok
          obtain ⟨rfl, rfl⟩ := val_eq ha
          refine Sound1.pure hr (x := .tuple #[z, .bool false]) ?_ ?_
          · cases d <;> first
              | (exact absurd rfl (hni _))
              | (simp only [execOp, ho, Instr.typeAssert, Sem.run_bind, run_underlying' hu, Result.andThen_ok, e, if_neg hvu, hok, if_true, Sem.run_pure, run_zeroValue' hz]; done)
          · simp only [vr]
            exact ⟨_, rfl, by simp only [vrA, vrL]; exact ⟨_, _, rfl, hzf, _, _, rfl, by simp only [vr], rfl⟩⟩
        · cases ha
    · rename_i hv
      have h1 := he _ _ _ hx' hv
      simp only [vr] at h1
      split at ha
      · rename_i hok
        obtain ⟨rfl, rfl⟩ := val_eq ha
        refine Sound1.pure hr (x := .tuple #[z, .bool false]) ?_ ?_
        · cases d <;> first
            | (exact absurd rfl (hni _))
            | (simp only [execOp, ho, Instr.typeAssert, Sem.run_bind, run_underlying' hu, Result.andThen_ok, h1, hok, if_true, Sem.run_pure, run_zeroValue' hz]; done)
        · simp only [vr]
          exact ⟨_, rfl, by simp only [vrA, vrL]; exact ⟨_, _, rfl, hzf, _, _, rfl, by simp only [vr], rfl⟩⟩
      · cases ha
    · cases ha

theorem s_panic (hr : Rel P ρ H w) (he : evR ρ ev ev') {x : Operand} (ho : o.op = .panic x) (hc : cOp P o = some io) (ha : aop io ev' H = some (r, H')) :
    Sound1 P ρ H w r H' ((execOp ev o).run P w) := by
  simp only [cOp, ho, Option.bind_eq_bind, Option.bind_eq_some_iff, Option.pure_def, Option.some.injEq] at hc
  obtain ⟨x', hx', rfl⟩ := hc
  simp only [aop] at ha
  split at ha
  · rename_i t v hv
    simp only [Option.some.injEq, Prod.mk.injEq] at ha
    obtain ⟨rfl, rfl⟩ := ha
    have h1 := he _ _ _ hx' hv
    refine ⟨ρ, w, Ext.refl hr, ev x, ?_, h1⟩
    simp only [vr] at h1
    obtain ⟨y, e, _⟩ := h1
    simp only [execOp, ho, Instr.panic, e, Sem.run_bind, run_goPanic, Result.andThen_halt]
  · cases ha

theorem s_call (hr : Rel P ρ H w) (he : evR ρ ev ev') {c : Call} (ho : o.op = .call c) {f : Operand} (hf : c.callee = .value f) (hc : cOp P o = some io) (ha : aop io ev' H = some (r, H')) :
    Sound1 P ρ H w r H' ((execOp ev o).run P w) := by
  simp only [cOp, ho, hf, Option.bind_eq_bind, Option.bind_eq_some_iff, Option.pure_def, Option.some.injEq] at hc
  obtain ⟨f', hf', args', hargs, rfl⟩ := hc
  simp only [aop] at ha
  split at ha
  · rename_i g first captured vs hv1 hv2
    simp only [Option.some.injEq, Prod.mk.injEq] at ha
    obtain ⟨rfl, rfl⟩ := ha
    have h1 := he _ _ _ hf' hv1
    simp only [vr] at h1
    obtain ⟨g', xs, ys, e, hg, h2, h3⟩ := h1
    simp only [fnr] at hg
    subst hg
    have h4 := opds_vr he hargs hv2
    refine ⟨ρ, w, Ext.refl hr, xs ++ c.args.map ev ++ ys, ?_, ?_⟩
    · simp only [execOp, ho, resolve, hf, e, Deferred.ofValue, Sem.run_bind, Sem.run_pure, Result.andThen_ok, invoke]
    · simp only [Array.toList_append]
      exact vrL_append (vrL_append (vrA_iff.1 h2) h4) (vrA_iff.1 h3)
  · rename_i l first captured vs hv1 hv2
    split at ha
    rotate_left
    · cases ha
    rename_i hsz
    simp only [Option.some.injEq, Prod.mk.injEq] at ha
    obtain ⟨rfl, rfl⟩ := ha
    have h1 := he _ _ _ hf' hv1
    simp only [vr] at h1
    obtain ⟨g', xs, ys, e, hg, h2, h3⟩ := h1
    simp only [fnr] at hg
    obtain ⟨p, hp, rfl⟩ := hg
    have hx0 : xs = #[] := by
      have := vrL_length (vrA_iff.1 h2)
      exact Array.eq_empty_of_size_eq_zero (by simpa [hsz.1] using this)
    have hy0 : ys = #[] := by
      have := vrL_length (vrA_iff.1 h3)
      exact Array.eq_empty_of_size_eq_zero (by simpa [hsz.2] using this)
    subst hx0 hy0
    have h4 := opds_vr he hargs hv2
    refine ⟨ρ, w, Ext.refl hr, p, c.args.map ev, hp, ?_, h4⟩
    simp only [execOp, ho, resolve, hf, e, Deferred.ofValue, Sem.run_bind, Sem.run_pure, Result.andThen_ok, invoke, Array.empty_append]
  · cases ha

theorem s_defer (hr : Rel P ρ H w) (he : evR ρ ev ev') {c : Call} (ho : o.op = .defer c) (hc : cOp P o = some io) (ha : aop io ev' H = some (r, H')) :
    Sound1 P ρ H w r H' ((execOp ev o).run P w) := by
  simp only [cOp, ho] at hc
  split at hc
  · rename_i f hf
    simp only [Option.bind_eq_bind, Option.bind_eq_some_iff, Option.pure_def, Option.some.injEq] at hc
    obtain ⟨f', hf', args', hargs, rfl⟩ := hc
    simp only [aop] at ha
    split at ha
    · rename_i g first captured vs hv1 hv2
      simp only [Option.some.injEq, Prod.mk.injEq] at ha
      obtain ⟨rfl, rfl⟩ := ha
      have h1 := he _ _ _ hf' hv1
      simp only [vr] at h1
      obtain ⟨g', xs, ys, e, hg, h2, h3⟩ := h1
      simp only [fnr] at hg
      subst hg
      have h4 := opds_vr he hargs hv2
      refine ⟨ρ, w, Ext.refl hr, { target := .fn (.func g) ys, args := xs ++ c.args.map ev }, ?_, ⟨_, _, rfl, rfl, h3⟩, ?_⟩
      · simp only [execOp, ho, resolve, hf, e, Deferred.ofValue, Sem.run_bind, Sem.run_pure, Result.andThen_ok]
      · refine vrA_iff.2 ?_
        simp only [Array.toList_append]
        exact vrL_append (vrA_iff.1 h2) (by simpa using h4)
    · cases ha
  · cases hc

/-! ### Maps -/
def keyDesc (kk : Nat) (d : TypeDesc) : Prop :=
  (kk = 0 ∧ ∃ k, d = .int k) ∨ (kk = 1 ∧ d = .string) ∨ (kk = 2 ∧ d = .bool)

theorem keyKind_spec {t : TypeId} {kk : Nat} (h : keyKind P t = some kk) : ∃ d, P.underlying t = some d ∧ keyDesc kk d := by
  unfold keyKind at h
  split at h
  · rename_i k hu; obtain rfl := Option.some.inj h; exact ⟨_, hu, .inl ⟨rfl, _, rfl⟩⟩
  · rename_i hu; obtain rfl := Option.some.inj h; exact ⟨_, hu, .inr (.inl ⟨rfl, rfl⟩)⟩
  · rename_i hu; obtain rfl := Option.some.inj h; exact ⟨_, hu, .inr (.inr ⟨rfl, rfl⟩)⟩
  · cases h

theorem checkKey_run {t : TypeId} {kk : Nat} {d : TypeDesc} (hu : P.underlying t = some d) (hd : keyDesc kk d) (empty : Bool) (n : Nat) (v : Value) : (Instr.checkKey empty (n + 1) t v).run P w = .ok () w := by
  rcases hd with ⟨_, k, rfl⟩ | ⟨_, rfl⟩ | ⟨_, rfl⟩ <;> cases v <;> simp [Instr.checkKey, run_underlying' hu]

theorem sameNow_ok {kk : Nat} {d : TypeDesc} {k e k' e' : Value} {b : Bool} (hd : keyDesc kk d) (h : keyEq kk k e = some b) (hk : vr ρ k k') (he : vr ρ e e') : Instr.sameNow d k' e' = some b := by
  rcases hd with ⟨rfl, kd, rfl⟩ | ⟨rfl, rfl⟩ | ⟨rfl, rfl⟩
  · cases k <;> cases e <;> simp only [keyEq, reduceCtorEq] at h
    split at h
    · rename_i hkk
      subst hkk
      rw [vr_int hk, vr_int he]
      simp [Instr.sameNow]
      simpa using h
    · cases h
  · cases k <;> cases e <;> simp only [keyEq, reduceCtorEq] at h
    rw [vr_str hk, vr_str he]
    simpa [Instr.sameNow] using h
  · cases k <;> cases e <;> simp only [keyEq, reduceCtorEq] at h
    rw [vr_bool hk, vr_bool he]
    simpa [Instr.sameNow] using h

theorem findNow_ok {kk : Nat} {d : TypeDesc} {k k' : Value} (hd : keyDesc kk d) (hk : vr ρ k k') : ∀ {es : List (Value × Value × Nat)} {l : List MapEntry} {i : Nat} {q : Option (Nat × Value)},
    findK kk k es i = some q → mapR ρ es l →
    (q = none ∧ Instr.findNow d k' l i = some none) ∨
    (∃ j v x e, q = some (j, v) ∧ Instr.findNow d k' l i = some (some (j, x)) ∧ vr ρ v x ∧ i ≤ j ∧ l[j - i]? = some e ∧ e.val = x ∧ keyEq kk k ((es[j - i]?.map (·.1)).getD k) = some true ∧ ∃ n, es[j - i]? = some ((es[j - i]?.map (·.1)).getD k, v, n))
  | [], l, i, q, h, hr => by
    simp only [mapR] at hr
    subst hr
    simp only [findK, Option.some.injEq] at h
    exact .inl ⟨h.symm, rfl⟩
  | (k2, v2, n2) :: es, l, i, q, h, hr => by
    simp only [mapR] at hr
    obtain ⟨e, l', rfl, h1, h2, h3, h4⟩ := hr
    simp only [findK] at h
    split at h
    · rename_i hq
      obtain rfl := Option.some.inj h
      have := sameNow_ok hd hq hk h1
      exact .inr ⟨i, v2, e.val, e, rfl, by simp [Instr.findNow, this], h2, Nat.le_refl _, by simp, rfl, by simpa using hq, n2, by simp⟩
    · rename_i hq
      have := sameNow_ok hd hq hk h1
      rcases findNow_ok hd hk h h4 with ⟨rfl, hh⟩ | ⟨j, v, x, e', rfl, hh, hv, hij, he', hx, hkey, n, hn⟩
      · exact .inl ⟨rfl, by simp [Instr.findNow, this, hh]⟩
      · have ej : j - i = (j - (i + 1)) + 1 := by omega
        refine .inr ⟨j, v, x, e', rfl, by simp [Instr.findNow, this, hh], hv, by omega, ?_, hx, ?_, n, ?_⟩
        · rw [ej]; simpa using he'
        · rw [ej]; simpa using hkey
        · rw [ej]; simpa using hn
    · cases h

theorem findKey_run {kk : Nat} {t : TypeId} {d : TypeDesc} (hu : P.underlying t = some d) {k' : Value} {l : List MapEntry} {q : Option (Nat × Value)} (h : Instr.findNow d k' l 0 = some q) :
    (Instr.findKey t k' l).run P w = .ok q w := by
  simp only [Instr.findKey, Sem.run_bind, run_underlying' hu, Result.andThen_ok, h, Sem.run_pure]

theorem keyIs_stays {kk : Nat} {k e k' e' : Value} (h : keyEq kk k e = some true) (hk : vr ρ k k') (he : vr ρ e e') : Instr.sameBits 10000 e' k' = true := by
  unfold keyEq at h
  split at h
  · split at h
    · rename_i hkk
      subst hkk
      rw [vr_int hk, vr_int he]
      simp at h
      simp [Instr.sameBits, h]
    · cases h
  · rw [vr_str hk, vr_str he]
    simp only [Option.some.injEq] at h
    rw [beq_toListBytes] at h
    simp only [Instr.sameBits]
    rw [beq_toListBytes]
    simp at h ⊢
    exact h.symm
  · rw [vr_bool hk, vr_bool he]
    simp at h
    simp [Instr.sameBits, h]
  · cases h

theorem s_lookup (hr : Rel P ρ H w) (he : evR ρ ev ev') {t : TypeId} {m k : Operand} {ok : Bool} (ho : o.op = .lookup t m k ok) (hc : cOp P o = some io) (ha : aop io ev' H = some (r, H')) :
    Sound1 P ρ H w r H' ((execOp ev o).run P w) := by
  simp only [cOp, ho] at hc
  split at hc
  · rename_i key elem hu
    simp only [Option.bind_eq_bind, Option.bind_eq_some_iff, Option.pure_def, Option.some.injEq] at hc
    obtain ⟨z, hz, kk, hkk, m', hm', k', hk', rfl⟩ := hc
    obtain ⟨d, hd, hkd⟩ := keyKind_spec hkk
    have hzf := flat_vr ρ z (tzero_flat hz)
    simp only [aop] at ha
    split at ha
    · rename_i r0 kv hv1 hv2
      have h2 := he _ _ _ hk' hv2
      have h1 := he _ _ _ hm' hv1
      split at ha
      · rename_i es hes
        -- the entries
        obtain ⟨ces, hces, hmr⟩ : ∃ ces : Array MapEntry, ((ev m = .map none ∧ ces = #[]) ∨ ∃ B clock, ev m = .map (some B) ∧ (getObj B).run P w = .ok (.map ces clock) w) ∧ mapR ρ es ces.toList := by
          cases r0 with
          | none =>
            simp only [Option.some.injEq] at hes
            subst hes
            simp only [vr] at h1
            exact ⟨#[], .inl ⟨h1, rfl⟩, rfl⟩
          | some b =>
            simp only at hes
            split at hes
            · rename_i es' clock hg
              obtain rfl := Option.some.inj hes
              simp only [vr] at h1
              obtain ⟨p, hp, e1⟩ := h1
              obtain ⟨_, _, ces, hh, hmr⟩ := hr.obj _ p _ hp hg
              exact ⟨ces, .inr ⟨_, clock, e1, by simp [getObj, Sem.run, hh]⟩, hmr⟩
            · cases hes
        split at ha
        · -- found
          rename_i j v hfk
          split at hfk
          rotate_left
          · cases hfk
          obtain ⟨rfl, rfl⟩ := val_eq ha
          rcases findNow_ok hkd h2 hfk hmr with ⟨hh, _⟩ | ⟨j', v', x, e, hq, hh, hvx, _⟩
          · cases hh
          · simp only [Option.some.injEq, Prod.mk.injEq] at hq
            obtain ⟨rfl, rfl⟩ := hq
            refine Sound1.pure hr (x := if ok then .tuple #[x, .bool true] else x) ?_ ?_
            · rcases hces with ⟨e1, rfl⟩ | ⟨B, clock, e1, hget⟩
              · simp only [execOp, ho, Instr.lookup, Sem.run_bind, run_underlying' hu, Result.andThen_ok, e1, checkKey_run hd hkd, findKey_run (kk := kk) hd hh, Sem.run_pure]
              · simp only [execOp, ho, Instr.lookup, Sem.run_bind, run_underlying' hu, Result.andThen_ok, e1, hget, checkKey_run hd hkd, findKey_run (kk := kk) hd hh, Sem.run_pure]
            · cases ok
              · simpa using hvx
              · simp only [if_true, vr]
                exact ⟨_, rfl, by simp only [vrA, vrL]; exact ⟨_, _, rfl, hvx, _, _, rfl, by simp only [vr], rfl⟩⟩
        · rename_i hfk
          split at hfk
          rotate_left
          · cases hfk
          obtain ⟨rfl, rfl⟩ := val_eq ha
          rcases findNow_ok hkd h2 hfk hmr with ⟨_, hh⟩ | ⟨j', v', x, e, hq, _⟩
          · refine Sound1.pure hr (x := if ok then .tuple #[z, .bool false] else z) ?_ ?_
            · rcases hces with ⟨e1, rfl⟩ | ⟨B, clock, e1, hget⟩
              · simp only [execOp, ho, Instr.lookup, Sem.run_bind, run_underlying' hu, Result.andThen_ok, e1, checkKey_run hd hkd, findKey_run (kk := kk) hd hh, Sem.run_pure, run_zeroValue' hz]
              · simp only [execOp, ho, Instr.lookup, Sem.run_bind, run_underlying' hu, Result.andThen_ok, e1, hget, checkKey_run hd hkd, findKey_run (kk := kk) hd hh, Sem.run_pure, run_zeroValue' hz]
            · cases ok
              · simpa using hzf
              · simp only [if_true, vr]
                exact ⟨_, rfl, by simp only [vrA, vrL]; exact ⟨_, _, rfl, hzf, _, _, rfl, by simp only [vr], rfl⟩⟩
          · cases hq
        · cases ha
      · cases ha
    · cases ha
  · cases hc

theorem mapR_get : ∀ {es : List (Value × Value × Nat)} {l : List MapEntry}, mapR ρ es l → ∀ {i : Nat} {x : Value × Value × Nat}, es[i]? = some x → ∃ e, l[i]? = some e ∧ vr ρ x.1 e.key ∧ vr ρ x.2.1 e.val ∧ e.born = x.2.2
  | [], _, _, _, _, hx => by simp at hx
  | (_, _, _) :: _, _, h, i, x, hx => by
    simp only [mapR] at h
    obtain ⟨e, l', rfl, h1, h2, h3, h4⟩ := h
    cases i with
    | zero => simp at hx; subst hx; exact ⟨e, by simp, h1, h2, h3⟩
    | succ i => obtain ⟨e', g1, g2⟩ := mapR_get h4 (by simpa using hx); exact ⟨e', by simpa using g1, g2⟩

theorem mapR_length : ∀ {es : List (Value × Value × Nat)} {l : List MapEntry}, mapR ρ es l → l.length = es.length
  | [], _, h => by simp only [mapR] at h; simp [h]
  | (_, _, _) :: _, _, h => by
    simp only [mapR] at h
    obtain ⟨e, l', rfl, _, _, _, h4⟩ := h
    simp [mapR_length h4]

theorem mapR_append : ∀ {es : List (Value × Value × Nat)} {l : List MapEntry} {k v k' v' : Value} {n : Nat}, mapR ρ es l → vr ρ k k' → vr ρ v v' → mapR ρ (es ++ [(k, v, n)]) (l ++ [{ key := k', val := v', born := n }])
  | [], _, _, _, _, _, _, h, hk, hv => by simp only [mapR] at h; subst h; exact ⟨_, _, rfl, hk, hv, rfl, rfl⟩
  | (_, _, _) :: _, _, _, _, _, _, _, h, hk, hv => by
    simp only [mapR] at h
    obtain ⟨e, l', rfl, h1, h2, h3, h4⟩ := h
    exact ⟨e, _, rfl, h1, h2, h3, mapR_append h4 hk hv⟩

theorem mapR_modify : ∀ {es : List (Value × Value × Nat)} {l : List MapEntry} {k v k' v' : Value} (i : Nat), mapR ρ es l → vr ρ k k' → vr ρ v v' → mapR ρ (es.modify i fun e => (k, v, e.2.2)) (l.modify i fun e => { e with key := k', val := v' })
  | [], _, _, _, _, _, _, h, _, _ => by simp only [mapR] at h; subst h; simp [mapR]
  | (_, _, _) :: _, _, _, _, _, _, i, h, hk, hv => by
    simp only [mapR] at h
    obtain ⟨e, l', rfl, h1, h2, h3, h4⟩ := h
    cases i with
    | zero => simp only [List.modify_zero_cons]; exact ⟨_, _, rfl, hk, hv, h3, h4⟩
    | succ i => simp only [List.modify_succ_cons]; exact ⟨e, _, rfl, h1, h2, h3, mapR_modify i h4 hk hv⟩

theorem mapR_erase : ∀ {es : List (Value × Value × Nat)} {l : List MapEntry} (i : Nat), mapR ρ es l → mapR ρ (es.eraseIdx i) (l.eraseIdx i)
  | [], _, _, h => by simp only [mapR] at h; subst h; simp [mapR]
  | (_, _, _) :: _, _, i, h => by
    simp only [mapR] at h
    obtain ⟨e, l', rfl, h1, h2, h3, h4⟩ := h
    cases i with
    | zero => simpa using h4
    | succ i => simp only [List.eraseIdx_cons_succ]; exact ⟨e, _, rfl, h1, h2, h3, mapR_erase i h4⟩

/-- A map turns. -/
theorem Rel.setMap (hr : Rel P ρ H w) {b : Nat} {p : Pl} {es es' : List (Value × Value × Nat)} {c c' : Nat} {l : Array MapEntry} (hp : ρ b = some p) (hg : H.get b = some (.map es c)) (hm : mapR ρ es' l.toList) :
    (setObj p.B (.map l c')).run P w = .ok () (World.putObj w p.B (.map l c')) ∧ Ext P ρ H w ρ (H.set b (.map es' c')) (World.putObj w p.B (.map l c')) := by
  obtain ⟨h1, h2, ces, hh, _⟩ := hr.obj _ p _ hp hg
  refine ⟨by simp [setObj, Sem.run, hh, World.putObj], ?_⟩
  exact Ext.putO hr hp hg rfl rfl h1 h2 ⟨_, hh, rfl⟩ ⟨h1, h2, l, putObj_get (hr.lt b p hp), hm⟩

theorem s_mapSet (hr : Rel P ρ H w) (he : evR ρ ev ev') {t : TypeId} {m k v : Operand} (ho : o.op = .mapUpdate t m k v ∨ o.op = .insert t m k v) (hc : cOp P o = some io) (ha : aop io ev' H = some (r, H')) :
    Sound1 P ρ H w r H' ((execOp ev o).run P w) := by
  have hex : execOp ev o = (do Instr.mapUpdate t (ev m) (ev k) (ev v); pure .skip) := by
    rcases ho with h | h <;> simp only [execOp, h]
  obtain ⟨key, elem, kk, m', k', v', hu, hkk, hm', hk', hv', rfl⟩ : ∃ key elem kk m' k' v', P.underlying t = some (.map key elem) ∧ keyKind P key = some kk ∧ cOpd m = some m' ∧ cOpd k = some k' ∧ cOpd v = some v' ∧ io = .mapSet kk m' k' v' := by
    rcases ho with h | h
    · simp only [cOp, h] at hc
      split at hc
      · rename_i key elem hu
        simp only [Option.bind_eq_bind, Option.bind_eq_some_iff, Option.pure_def, Option.some.injEq] at hc
        obtain ⟨kk, hkk, m', hm', k', hk', v', hv', rfl⟩ := hc
        exact ⟨key, elem, kk, m', k', v', hu, hkk, hm', hk', hv', rfl⟩
      · cases hc
    · simp only [cOp, h] at hc
      split at hc
      · rename_i key elem hu
        simp only [Option.bind_eq_bind, Option.bind_eq_some_iff, Option.pure_def, Option.some.injEq] at hc
        obtain ⟨kk, hkk, m', hm', k', hk', v', hv', rfl⟩ := hc
        exact ⟨key, elem, kk, m', k', v', hu, hkk, hm', hk', hv', rfl⟩
      · cases hc
  rw [hex]
  · obtain ⟨d, hd, hkd⟩ := keyKind_spec hkk
    simp only [aop] at ha
    split at ha
    · rename_i b kv vv hv1 hv2 hv3
      have h1 := he _ _ _ hm' hv1
      have h2 := he _ _ _ hk' hv2
      have h3 := he _ _ _ hv' hv3
      simp only [vr] at h1
      obtain ⟨p, hp, e1⟩ := h1
      split at ha
      · rename_i es clock hg
        obtain ⟨_, _, ces, hh, hmr⟩ := hr.obj _ p _ hp hg
        have hget : (getObj p.B).run P w = .ok (.map ces clock) w := by simp [getObj, Sem.run, hh]
        split at ha
        · rename_i j x hfk
          split at hfk
          rotate_left
          · cases hfk
          simp only [Option.some.injEq, Prod.mk.injEq] at ha
          obtain ⟨rfl, rfl⟩ := ha
          rcases findNow_ok hkd h2 hfk hmr with ⟨hq, _⟩ | ⟨j', v0, x', e, hq, hfn, hvx, _, hej, _, hkey, n, hn⟩
          · cases hq
          · simp only [Option.some.injEq, Prod.mk.injEq] at hq
            obtain ⟨rfl, rfl⟩ := hq
            simp only [Nat.sub_zero] at hej hkey hn
            obtain ⟨e2, g1, g2, _, _⟩ := mapR_get hmr hn
            rw [hej] at g1
            obtain rfl := Option.some.inj g1
            have hstay := keyIs_stays hkey h2 g2
            have hcj : ces[j]? = some e := by simpa using hej
            have hmr' := mapR_modify j hmr h2 h3
            obtain ⟨hset, hext⟩ := hr.setMap (es' := es.modify j fun e => (kv, vv, e.2.2)) (c' := clock) (l := ces.modify j fun e => { e with key := ev k, val := ev v }) hp hg (by simpa using hmr')
            refine ⟨ρ, _, hext, ?_⟩
            simp only [outR]
            simp only [Instr.mapUpdate, Sem.run_bind, run_underlying' hu, Result.andThen_ok, e1, hget, checkKey_run hd hkd, findKey_run (kk := kk) hd hfn, hcj, Option.map_some, Option.getD_some, Instr.keyThatStays, hstay, if_true, Sem.run_pure, hset]
        · rename_i hfk
          split at hfk
          rotate_left
          · cases hfk
          simp only [Option.some.injEq, Prod.mk.injEq] at ha
          obtain ⟨rfl, rfl⟩ := ha
          rcases findNow_ok hkd h2 hfk hmr with ⟨_, hfn⟩ | ⟨j', v0, x', e, hq, _⟩
          · have hmr' := mapR_append (n := clock) hmr h2 h3
            obtain ⟨hset, hext⟩ := hr.setMap (es' := es ++ [(kv, vv, clock)]) (c' := clock + 1) (l := ces.push { key := ev k, val := ev v, born := clock }) hp hg (by simpa using hmr')
            refine ⟨ρ, _, hext, ?_⟩
            simp only [outR]
            simp only [Instr.mapUpdate, Sem.run_bind, run_underlying' hu, Result.andThen_ok, e1, hget, checkKey_run hd hkd, findKey_run (kk := kk) hd hfn, Sem.run_pure, hset]
          · cases hq
        · cases ha
      · cases ha
    · cases ha

end Go.Abs
