/-
  ABS, part S: the abstract machine is what the model does (four: functions). (Own work.)
-/
import Derived.Test.YtohipgnacknkgabGreatHgR
import Derived.RangeFuncLeaves
import Derived.Recover
set_option linter.unusedSimpArgs false
set_option linter.unusedVariables false
namespace Go.Abs
open Go

variable {P : Program}

/-! ### Results -/

def IResOk (P : Program) (fn : Func) (rs : List IRes) : Prop := fn.results.toList.mapM (cRes P) = some rs

def runRes (tmps : Array Value) : ResultVar → Sem Value
  | .tmp t => pure (tmps.getD t undef)
  | .cell a t => do loadVar t (← asAddr (tmps.getD a undef))

theorem getD_of_get {tmps : Array Value} {t : Nat} {y : Value} (h : tmps.toList[t]? = some y) : tmps.getD t undef = y := by
  have h' : tmps[t]? = some y := by simpa using h
  simp [Array.getD_eq_getD_getElem?, h']

theorem resOf_ok {ρ : Rho} {H : AHeap} {w : World} {ts : Tmps} {tmps : Array Value} {rv : ResultVar} {ir : IRes} {v : Value} (hr : Rel P ρ H w) (ht : vrA ρ ts.arr tmps) (hc : cRes P rv = some ir) (h : resOf ts H ir = some v) :
    ∃ y, (runRes tmps rv).run P w = .ok y w ∧ vr ρ v y := by
  cases rv with
  | tmp t =>
    simp only [cRes, Option.some.injEq] at hc
    subst hc
    simp only [resOf] at h
    obtain ⟨y, hy, hv⟩ := vrL_get (vrA_iff.1 ht) (i := t) (x := v) (by rw [← Tmps.get_arr] at h; simpa using h)
    exact ⟨y, by simp [runRes, getD_of_get hy], hv⟩
  | cell a t =>
    simp only [cRes] at hc
    split at hc
    · rename_i hg
      simp only [Option.map_eq_some_iff] at hc
      obtain ⟨n, hn, rfl⟩ := hc
      simp only [resOf] at h
      split at h
      · rename_i ad hta
        simp only [Option.map_eq_some_iff] at h
        obtain ⟨vs, hvs, rfl⟩ := h
        obtain ⟨y, hy, hv⟩ := vrL_get (vrA_iff.1 ht) (i := a) (x := .pointer (some ad)) (by rw [← Tmps.get_arr] at hta; simpa using hta)
        simp only [vr] at hv
        obtain ⟨b, e, hab⟩ := hv
        obtain ⟨ys, hl, hys⟩ := hr.run_row hab hvs
        refine ⟨.agg ys, ?_, by simp only [vr]; exact ⟨ys, rfl, vrA_iff.2 (by simpa using hys)⟩⟩
        simp only [runRes, getD_of_get hy, e, asAddr, Sem.run_bind, Sem.run_pure, Result.andThen_ok, loadVar, run_isAgg' hg, if_true, run_sizeOf' hn, hl]
      · cases h
    · rename_i hg
      simp only [Option.some.injEq] at hc
      subst hc
      simp only [resOf] at h
      split at h
      · rename_i ad hta
        obtain ⟨y, hy, hv⟩ := vrL_get (vrA_iff.1 ht) (i := a) (x := .pointer (some ad)) (by rw [← Tmps.get_arr] at hta; simpa using hta)
        simp only [vr] at hv
        obtain ⟨b, e, hab⟩ := hv
        obtain ⟨z, hz, hzv⟩ := hr.cell hab h
        refine ⟨z, ?_, hzv⟩
        simp only [runRes, getD_of_get hy, e, asAddr, Sem.run_bind, Sem.run_pure, Result.andThen_ok, loadVar, run_isAgg' hg, Bool.false_eq_true, if_false]
        simp [hz]
      · cases h
    · cases hc

theorem resAll_ok {ρ : Rho} {H : AHeap} {w : World} {ts : Tmps} {tmps : Array Value} (hr : Rel P ρ H w) (ht : vrA ρ ts.arr tmps) : ∀ {rvs : List ResultVar} {irs : List IRes} {vs : List Value},
    rvs.mapM (cRes P) = some irs → resAll ts H irs = some vs → ∃ ys, (rvs.mapM (runRes tmps)).run P w = .ok ys w ∧ vrL ρ vs ys
  | [], irs, vs, hc, h => by
    simp at hc
    subst hc
    simp only [resAll, Option.some.injEq] at h
    subst h
    exact ⟨[], by simp, by simp only [vrL]⟩
  | rv :: rvs, irs, vs, hc, h => by
    simp only [List.mapM_cons, Option.bind_eq_bind, Option.bind_eq_some_iff, Option.pure_def, Option.some.injEq] at hc
    obtain ⟨ir, h1, irs', h2, rfl⟩ := hc
    simp only [resAll] at h
    split at h
    · rename_i v vs' h3 h4
      obtain rfl := Option.some.inj h
      obtain ⟨y, hy, hv⟩ := resOf_ok hr ht h1 h3
      obtain ⟨ys, hys, hvs⟩ := resAll_ok hr ht h2 h4
      refine ⟨y :: ys, ?_, by simp only [vrL]; exact ⟨_, _, rfl, hv, hvs⟩⟩
      simp only [List.mapM_cons, Sem.run_bind, hy, Result.andThen_ok, hys, Sem.run_pure]
    · cases h

theorem resV_ok {ρ : Rho} {H : AHeap} {w : World} {ts : Tmps} {tmps : Array Value} {fn : Func} {irs : List IRes} {v : Value} (hr : Rel P ρ H w) (ht : vrA ρ ts.arr tmps) (hc : IResOk P fn irs) (h : resV ts H irs = some v) :
    ∃ y, (results fn tmps).run P w = .ok y w ∧ vr ρ v y := by
  have hres : results fn tmps = (do let vs ← fn.results.toList.mapM (runRes tmps); pure (if h : vs.toArray.size = 1 then vs.toArray[0] else .tuple vs.toArray)) := by
    unfold results
    rw [Array.mapM_eq_mapM_toList]
    simp only [map_eq_pure_bind, bind_assoc, pure_bind]
    congr 1
  unfold resV at h
  rw [hres]
  split at h
  · rename_i x hx
    obtain rfl := Option.some.inj h
    obtain ⟨ys, hys, hv⟩ := resAll_ok hr ht hc hx
    simp only [vrL] at hv
    obtain ⟨y, ys', rfl, hv1, rfl⟩ := hv
    exact ⟨y, by simp [Sem.run_bind, hys], hv1⟩
  · rename_i vs hne hx
    obtain rfl := Option.some.inj h
    obtain ⟨ys, hys, hv⟩ := resAll_ok hr ht hc hx
    have hl := vrL_length hv
    refine ⟨.tuple ys.toArray, ?_, by simp only [vr]; exact ⟨_, rfl, vrA_iff.2 (by simpa using hv)⟩⟩
    have hl1 : ys.length ≠ 1 := by
      intro h1
      rw [hl] at h1
      obtain ⟨z, rfl⟩ := List.length_eq_one_iff.1 h1
      exact hne z rfl
    simp [Sem.run_bind, hys, hl1]
  · cases h

/-! ### Deferred frames -/

def dmR (ρ : Rho) : Option (Value × Bool) → FrameMode → Prop
  | none, u => u = .returning
  | some (v, b), u => ∃ y, u = .panicking [{ v := y, recovered := b }] ∧ vr ρ v y

theorem dmR_mono {ρ ρ' : Rho} (h : ρ.le ρ') {m : Option (Value × Bool)} {u : FrameMode} (hr : dmR ρ m u) : dmR ρ' m u := by
  cases m with
  | none => exact hr
  | some vb => obtain ⟨v, b⟩ := vb; obtain ⟨y, e, hv⟩ := hr; exact ⟨y, e, vr_mono h _ _ hv⟩

def PostD (P : Program) (ρ : Rho) (H : AHeap) (w : World) (c₀ : Frame) (cs : List Frame) (x : AX) (s' : ASt) (m' : Option (Value × Bool)) : Exit → Act → List Frame → World → Prop :=
  fun e a' cs' w' => ∃ ρ', Ext P ρ H w ρ' s'.H w' ∧ StR P ρ' s' a' w' ∧ xR ρ' x e ∧ ∃ u', cs' = { c₀ with mode := u' } :: cs ∧ dmR ρ' m' u'

theorem PostD.trans {ρ ρ1 : Rho} {H H1 : AHeap} {w w1 : World} {c₀ : Frame} {cs : List Frame} {x : AX} {s' : ASt} {m' : Option (Value × Bool)} (h : Ext P ρ H w ρ1 H1 w1) {e : Exit} {a : Act} {cs' : List Frame} {w2 : World}
    (h2 : PostD P ρ1 H1 w1 c₀ cs x s' m' e a cs' w2) : PostD P ρ H w c₀ cs x s' m' e a cs' w2 := by
  obtain ⟨ρ', g1, g2⟩ := h2
  exact ⟨ρ', h.trans g1, g2⟩

def CodeDOk (P : Program) (e : Ev) : Prop :=
  ∀ c ic s m x s' m', cCode P c = some ic → e.codeD ic s m = some (x, s', m') → ∀ ρ a w c₀ cs u, StR P ρ s a w → dmR ρ m u →
    c.wpS P (PostD P ρ s.H w c₀ cs x s' m') a ({ c₀ with mode := u } :: cs) w

theorem stepOpsD_ok {e : Ev} (hcall : CallsOk P e) {ops : Array Oper} {l : List IOper} (hl : ∀ i : Nat, (ops[i]? = none ∧ l[i]? = none) ∨ ∃ o io, ops[i]? = some o ∧ l[i]? = some io ∧ cOper P ops o = some io) {c₀ : Frame} {cs : List Frame} :
    ∀ (is : List Nat) {s s' : ASt} {m m' : Option (Value × Bool)} {ρ : Rho} {a : Act} {w : World} {u : FrameMode}, stepOpsD e (is.filterMap fun (i : Nat) => l[i]?) s m = some (s', m') → StR P ρ s a w → dmR ρ m u →
      ∀ (Q : Exit → Act → List Frame → World → Prop), (∀ ex a' cs' w', PostD P ρ s.H w c₀ cs .normal s' m' ex a' cs' w' → Q ex a' cs' w') → wpOpsS P ops Q is a ({ c₀ with mode := u } :: cs) w
  | [], s, s', m, m', ρ, a, w, u, h, hs, hm, Q, hQ => by
    simp only [List.filterMap_nil, stepOpsD, Option.some.injEq, Prod.mk.injEq] at h
    obtain ⟨rfl, rfl⟩ := h
    exact hQ _ _ _ _ ⟨ρ, Ext.refl hs.rel, hs, rfl, u, rfl, hm⟩
  | i :: is, s, s', m, m', ρ, a, w, u, h, hs, hm, Q, hQ => by
    simp only [wpOpsS]
    rcases hl i with ⟨h1, h2⟩ | ⟨o, io, h1, h2, h3⟩
    · simp only [h1]
      simp only [List.filterMap_cons, h2] at h
      exact stepOpsD_ok hcall hl is h hs hm Q hQ
    · simp only [h1]
      simp only [List.filterMap_cons, h2, stepOpsD] at h
      cases hst : stepOpD e io s m with
      | none => simp only [hst, reduceCtorEq] at h
      | some q =>
        obtain ⟨s1, m1⟩ := q
        simp only [hst] at h
        have next : ∀ ρ' a' w' u', Ext P ρ s.H w ρ' s1.H w' → StR P ρ' s1 a' w' → dmR ρ' m1 u' → wpOpsS P ops Q is a' ({ c₀ with mode := u' } :: cs) w' := fun ρ' a' w' u' hext hst' hm' =>
          stepOpsD_ok hcall hl is h hst' hm' Q (fun ex a2 cs2 w2 hh => hQ _ _ _ _ (PostD.trans hext hh))
        obtain ⟨hd, hop, hg⟩ := cOper_spec h3
        unfold stepOpD at hst
        simp only [aopK_eq] at hst
        cases hw : want io.guard s.ts with
        | none => simp only [hw, reduceCtorEq] at hst
        | some b =>
          have hwb := want_ok hg hs.ts hw
          cases b with
          | false =>
            simp only [hw, Option.some.injEq, Prod.mk.injEq] at hst
            obtain ⟨rfl, rfl⟩ := hst
            rw [if_neg (by rw [hwb]; decide)]
            refine next ρ _ w u (by rw [ASt.put_H]; exact Ext.refl hs.rel) ?_ hm
            rw [← hd]
            exact hs.put io.dst (vr_undef ρ)
          | true =>
            simp only [hw] at hst
            rw [if_pos hwb]
            cases hap : aop io.op (aev s.ts) s.H with
            | none => simp only [hap, reduceCtorEq] at hst
            | some rH =>
              obtain ⟨ar, H1⟩ := rH
              simp only [hap] at hst
              obtain ⟨ρ1, w1, hext, hout⟩ := op_sound hs.rel (evR_aev hs.ts) (fun _ => rfl) hop hs.clo.fresh hap
              have hst1 := hs.next hext
              have hm1 := dmR_mono hext.sub hm
              cases ar with
              | val v =>
                simp only [Option.some.injEq, Prod.mk.injEq] at hst
                obtain ⟨rfl, rfl⟩ := hst
                obtain ⟨y, hres, hv⟩ := hout
                simp only [hres]
                refine next ρ1 _ w1 u (by rw [ASt.put_H]; exact hext) ?_ hm1
                rw [← hd]
                exact hst1.put io.dst hv
              | skip =>
                simp only [Option.some.injEq, Prod.mk.injEq] at hst
                obtain ⟨rfl, rfl⟩ := hst
                simp only [outR] at hout
                simp only [hout]
                refine next ρ1 _ w1 u (by rw [ASt.put_H]; exact hext) ?_ hm1
                rw [← hd]
                exact hst1.put io.dst (vr_undef ρ1)
              | panic v => simp only [reduceCtorEq] at hst
              | round l args => simp only [reduceCtorEq] at hst
              | defer d => simp only [reduceCtorEq] at hst
              | enter f args =>
                obtain ⟨xs, hres, hxs⟩ := hout
                simp only at hst
                cases hcl : e.call f args H1 with
                | none => simp only [hcl, reduceCtorEq] at hst
                | some q =>
                  obtain ⟨ae, H2⟩ := q
                  simp only [hcl] at hst
                  obtain ⟨hcf, hco⟩ := hcall f args H1 ae H2 hcl
                  rw [hcf] at hres
                  simp only [hres]
                  refine callsIn_wide.1 (CallsIn.mono (hco ρ1 w1 xs hst1.rel hst1.clo hxs) ?_)
                  rintro e2 w2 ⟨ρ2, hext2, hend⟩
                  cases ae with
                  | ret v =>
                    simp only [Option.some.injEq, Prod.mk.injEq] at hst
                    obtain ⟨rfl, rfl⟩ := hst
                    obtain ⟨y, rfl, hv⟩ := hend
                    refine next ρ2 _ w2 u (by rw [ASt.put_H]; exact hext.trans hext2) ?_ (dmR_mono hext2.sub hm1)
                    rw [← hd]
                    exact (hst1.next hext2).put io.dst hv
                  | panic v => simp only [reduceCtorEq] at hst
              | recover =>
                simp only [outR] at hout
                simp only [hout]
                simp only at hst
                cases m with
                | none =>
                  simp only [Option.some.injEq, Prod.mk.injEq] at hst
                  obtain ⟨rfl, rfl⟩ := hst
                  simp only [dmR] at hm
                  subst hm
                  simp only [recoverD]
                  refine next ρ1 _ w1 _ (by rw [ASt.put_H]; exact hext) ?_ rfl
                  rw [← hd]
                  exact hst1.put io.dst (by simp only [vr])
                | some vb =>
                  obtain ⟨v, b⟩ := vb
                  obtain ⟨y, rfl, hv⟩ := hm1
                  cases b with
                  | false =>
                    simp only [Option.some.injEq, Prod.mk.injEq] at hst
                    obtain ⟨rfl, rfl⟩ := hst
                    simp only [recoverD]
                    refine next ρ1 _ w1 _ (by rw [ASt.put_H]; exact hext) ?_ ⟨y, rfl, hv⟩
                    rw [← hd]
                    exact hst1.put io.dst hv
                  | true =>
                    simp only [Option.some.injEq, Prod.mk.injEq] at hst
                    obtain ⟨rfl, rfl⟩ := hst
                    simp only [recoverD]
                    refine next ρ1 _ w1 _ (by rw [ASt.put_H]; exact hext) ?_ ⟨y, rfl, hv⟩
                    rw [← hd]
                    exact hst1.put io.dst (by simp only [vr])

theorem wpS_mono {c : Code} {Q Q' : Exit → Act → List Frame → World → Prop} {a : Act} {cs : List Frame} {w : World} (h : c.wpS P Q a cs w) (hq : ∀ e a cs w, Q e a cs w → Q' e a cs w) : c.wpS P Q' a cs w :=
  fun b k hb hr => let ⟨e, a', cs', w', q, r⟩ := h b k hb hr; ⟨e, a', cs', w', hq _ _ _ _ q, r⟩

theorem stepCodeD_ok {e : Ev} (he : CodeDOk P e) (hcall : CallsOk P e) : ∀ c ic s m x s' m', cCode P c = some ic → stepCodeD e ic s m = some (x, s', m') → ∀ ρ a w c₀ cs u, StR P ρ s a w → dmR ρ m u →
    c.wpS P (PostD P ρ s.H w c₀ cs x s' m') a ({ c₀ with mode := u } :: cs) w := by
  intro c ic s m x s' m' hc h ρ a w c₀ cs u hs hm
  cases c with
  | skip =>
    simp only [cCode, Option.some.injEq] at hc; subst hc
    simp only [stepCodeD, Option.some.injEq, Prod.mk.injEq] at h
    obtain ⟨rfl, rfl, rfl⟩ := h
    exact wpS_of_wp ((wpIn_wide (n := 0)).1 (wpIn_skip ⟨ρ, Ext.refl hs.rel, hs, rfl, u, rfl, hm⟩))
  | ret =>
    simp only [cCode, Option.some.injEq] at hc; subst hc
    simp only [stepCodeD, Option.some.injEq, Prod.mk.injEq] at h
    obtain ⟨rfl, rfl, rfl⟩ := h
    exact wpS_of_wp ((wpIn_wide (n := 0)).1 (wpIn_ret ⟨ρ, Ext.refl hs.rel, hs, rfl, u, rfl, hm⟩))
  | region id ops d =>
    simp only [cCode, Option.bind_eq_bind, Option.bind_eq_some_iff] at hc
    obtain ⟨l, hl, hc⟩ := hc
    cases d with
    | false =>
      simp only [Bool.false_eq_true, if_false, Option.pure_def, Option.some.injEq] at hc
      subst hc
      simp only [stepCodeD] at h
      split at h
      · rename_i s1 m1 hst
        simp only [Option.some.injEq, Prod.mk.injEq] at h
        obtain ⟨rfl, rfl, rfl⟩ := h
        refine wpS_region ?_
        have hlen : l.length = ops.size := by simpa using mapM_length hl
        have hr : (List.range ops.size).filterMap (fun (i : Nat) => l[i]?) = l := by rw [← hlen]; exact range_filterMap l
        exact stepOpsD_ok hcall (ops_get hl) (List.range ops.size) (by rw [hr]; exact hst) hs hm _ (fun _ _ _ _ hh => hh)
      · cases h
    | true =>
      simp only [if_true, Option.pure_def, Option.some.injEq] at hc
      subst hc
      simp only [stepCodeD, reduceCtorEq] at h
  | seq c1 c2 =>
    simp only [cCode, Option.bind_eq_bind, Option.bind_eq_some_iff, Option.pure_def, Option.some.injEq] at hc
    obtain ⟨i1, h1, i2, h2, rfl⟩ := hc
    simp only [stepCodeD] at h
    refine wpS_seq ?_
    cases hcode : e.codeD i1 s m with
    | none => simp only [hcode, reduceCtorEq] at h
    | some q =>
      obtain ⟨x1, s1, m1⟩ := q
      simp only [hcode] at h
      refine wpS_mono (he c1 i1 s m x1 s1 m1 h1 hcode ρ a w c₀ cs u hs hm) ?_
      rintro ex a1 cs1 w1 ⟨ρ1, x01, st1, hx, u1, rfl, hm1⟩
      cases x1 with
      | normal =>
        simp only [xR] at hx
        subst hx
        simp only at h
        exact wpS_mono (he c2 i2 s1 m1 x s' m' h2 h ρ1 a1 w1 c₀ cs u1 st1 hm1) fun _ _ _ _ hh => PostD.trans x01 hh
      | panic v =>
        simp only [Option.some.injEq, Prod.mk.injEq] at h
        obtain ⟨rfl, rfl, rfl⟩ := h
        obtain ⟨y, rfl, hy⟩ := hx
        exact ⟨ρ1, x01, st1, ⟨y, rfl, hy⟩, u1, rfl, hm1⟩
      | jump j =>
        simp only [Option.some.injEq, Prod.mk.injEq] at h
        obtain ⟨rfl, rfl, rfl⟩ := h
        cases j <;> (simp only [xR] at hx; subst hx; exact ⟨ρ1, x01, st1, rfl, u1, rfl, hm1⟩)
  | cond g c1 c2 =>
    simp only [cCode, Option.bind_eq_bind, Option.bind_eq_some_iff, Option.pure_def, Option.some.injEq] at hc
    obtain ⟨ig, hg, i1, h1, i2, h2, rfl⟩ := hc
    simp only [stepCodeD] at h
    split at h
    · rename_i hv
      have := vr_bool (evR_aev hs.ts g ig _ hg hv)
      exact wpS_cond (t := true) this (he c1 i1 s m x s' m' h1 h ρ a w c₀ cs u hs hm)
    · rename_i hv
      have := vr_bool (evR_aev hs.ts g ig _ hg hv)
      exact wpS_cond (t := false) this (he c2 i2 s m x s' m' h2 h ρ a w c₀ cs u hs hm)
    · cases h
  | label l => simp only [cCode, Option.some.injEq] at hc; subst hc; simp only [stepCodeD, reduceCtorEq] at h
  | exit id => simp only [cCode, Option.some.injEq] at hc; subst hc; simp only [stepCodeD, reduceCtorEq] at h
  | goto l => simp only [cCode, Option.some.injEq] at hc; subst hc; simp only [stepCodeD, reduceCtorEq] at h
  | refuse why => simp only [cCode, reduceCtorEq] at hc
  | block id c1 =>
    simp only [cCode, Option.bind_eq_bind, Option.bind_eq_some_iff, Option.pure_def, Option.some.injEq] at hc
    obtain ⟨_, _, rfl⟩ := hc
    simp only [stepCodeD, reduceCtorEq] at h
  | loop c1 =>
    simp only [cCode, Option.bind_eq_bind, Option.bind_eq_some_iff, Option.pure_def, Option.some.injEq] at hc
    obtain ⟨_, _, rfl⟩ := hc
    simp only [stepCodeD, reduceCtorEq] at h
  | scope c1 =>
    simp only [cCode, Option.bind_eq_bind, Option.bind_eq_some_iff, Option.pure_def, Option.some.injEq] at hc
    obtain ⟨_, _, rfl⟩ := hc
    simp only [stepCodeD, reduceCtorEq] at h
  | rangeFunc g ps c1 c2 =>
    simp only [cCode, Option.bind_eq_bind, Option.bind_eq_some_iff, Option.pure_def, Option.some.injEq] at hc
    obtain ⟨_, _, _, _, _, _, rfl⟩ := hc
    simp only [stepCodeD, reduceCtorEq] at h

/-- A function's contract, entered as a deferred call, from its body. -/
theorem callsDIn_of_wpS {f : FuncId} {fn : Func} {c : Code} {args : Array Value} {u : FrameMode} {w : World} {R : Ending → FrameMode → World → Prop}
    (hf : P.funcs[f]? = some fn) (hb : fn.body = some c)
    (h : ∀ (c₀ : Frame) (cs : List Frame), c₀.mode = u →
      c.wpS P (bodyPostS P fn c₀ cs R) { tmps := args ++ Array.replicate (fn.ntmps - args.size) undef, defers := [] } (c₀ :: cs) w) :
    CallsDIn Fence.wide 0 P f args u w R := by
  refine ⟨trivial, fun c₀ cs hu _ => ?_⟩
  let b : Frame := { (default : Frame) with fn := f, kind := .deferred }
  have henter : Frame.enter P f args .deferred =
      b.at { tmps := args ++ Array.replicate (fn.ntmps - args.size) undef, defers := [] } [.code c] := by
    simp [Frame.enter, Frame.at, hf, hb, b]
  obtain ⟨e, a', cs', w', hq, harr⟩ := h c₀ cs hu b [] rfl rfl
  rw [← henter] at harr
  cases e with
  | normal =>
    obtain ⟨hd, u', rfl, v, hr, hR⟩ := hq
    exact ⟨.returned v, u', w', _, hR, comesIn_wide.2 (Steps.trans harr (.one step_end)), rfl, rfl, rfl, hd, fn, hf, hr⟩
  | ret =>
    obtain ⟨hd, u', rfl, v, hr, hR⟩ := hq
    obtain ⟨todo, hs⟩ := harr
    exact ⟨.returned v, u', w', _, hR, comesIn_wide.2 hs, rfl, rfl, rfl, hd, fn, hf, hr⟩
  | panic chain =>
    obtain ⟨hd, u', rfl, hR⟩ := hq
    obtain ⟨todo, hs⟩ := harr
    exact ⟨.panicked chain, u', w', _, hR, comesIn_wide.2 hs, rfl, rfl, rfl, hd, fn, hf⟩
  | exit id => exact hq.elim
  | goto l => exact hq.elim
  | outgrown =>
    obtain ⟨u', hR⟩ := hq
    exact ⟨.outgrown, u', w', b, hR, harr.resolve_left (by simp [b]), rfl, rfl, trivial⟩

/-! ### Functions -/

theorem aFn_spec {f : Nat} {a : AFn} (h : aFn P f = some a) : ∃ fn c, P.funcs[f]? = some fn ∧ fn.body = some c ∧ (fn.name == "runtime.NumGoroutine") = false ∧ cCode P c = some a.code ∧ a.ntmps = fn.ntmps ∧ IResOk P fn a.results := by
  simp only [aFn, Option.bind_eq_bind, Option.bind_eq_some_iff] at h
  obtain ⟨fn, hf, c, hb, h⟩ := h
  split at h
  · cases h
  · rename_i hn
    simp only [Option.bind_eq_some_iff, Option.pure_def, Option.some.injEq] at h
    obtain ⟨code, hc, results, hr, rfl⟩ := h
    exact ⟨fn, c, hf, hb, by simpa using hn, hc, rfl, hr⟩

def TOk (P : Program) (T : Nat → Option AFn) : Prop := ∀ f a, T f = some a → aFn P f = some a

theorem callFunc_run {f : Nat} {fn : Func} {c : Code} (hf : P.funcs[f]? = some fn) (hb : fn.body = some c) (hn : (fn.name == "runtime.NumGoroutine") = false) (xs : Array Value) (w : World) :
    (callFunc f xs).run P w = .ok (.enter f xs) w := by
  simp only [callFunc, Sem.run_bind, run_program, Result.andThen_ok, hf, hn, hb, Option.isNone_some, Bool.false_eq_true, if_false, Sem.run_pure]

theorem vrL_replicate (ρ : Rho) : ∀ n, vrL ρ (List.replicate n undef) (List.replicate n undef)
  | 0 => by simp only [List.replicate_zero, vrL]
  | n + 1 => by simp only [List.replicate_succ, vrL]; exact ⟨_, _, rfl, vr_undef ρ, vrL_replicate ρ n⟩

theorem enter_vr {ρ : Rho} {args : List Value} {xs : Array Value} (n : Nat) (h : vrL ρ args xs.toList) : vrA ρ (Tmps.enter n args).arr (xs ++ Array.replicate (n - xs.size) undef) := by
  rw [Tmps.arr_enter, vrA_iff]
  have hl := vrL_length h
  simp at hl
  simp only [Array.toList_append, Array.toList_replicate, hl]
  exact vrL_append h (vrL_replicate ρ _)

def modeR (ρ : Rho) : Option Value → FrameMode → Prop
  | none, u => u = .returning
  | some v, u => ∃ y, u = .panicking [{ v := y, recovered := false }] ∧ vr ρ v y

theorem modeR_mono {ρ ρ' : Rho} (h : ρ.le ρ') {m : Option Value} {u : FrameMode} (hr : modeR ρ m u) : modeR ρ' m u := by
  cases m with
  | none => exact hr
  | some v => obtain ⟨y, e, hv⟩ := hr; exact ⟨y, e, vr_mono h _ _ hv⟩

theorem modeR_run {ρ : Rho} {m : Option Value} {u : FrameMode} (hr : modeR ρ m u) : u ≠ .run := by
  cases m with
  | none => simp only [modeR] at hr; subst hr; simp
  | some v => obtain ⟨y, rfl, _⟩ := hr; simp

theorem callD_ok {T : Nat → Option AFn} (hT : TOk P T) {e : Ev} (he : CodeDOk P e) {f : Nat} {args : List Value} {m m' : Option Value} {H H' : AHeap} (h : callD T e f args m H = some (m', H'))
    {ρ : Rho} {w : World} {xs : Array Value} {u : FrameMode} (hr : Rel P ρ H w) (hc : Clo ρ H) (hx : vrL ρ args xs.toList) (hm : modeR ρ m u) :
    (∀ w, (callFunc f xs).run P w = .ok (.enter f xs) w) ∧
    CallsDIn Fence.wide 0 P f xs u w fun ex u' w' => (∃ y, ex = .returned y) ∧ ∃ ρ', Ext P ρ H w ρ' H' w' ∧ Clo ρ' H' ∧ modeR ρ' m' (settle u') := by
  unfold callD at h
  split at h
  · cases h
  rename_i afn hTf
  obtain ⟨fn, c, hf, hb, hn, hcode, hnt, hres⟩ := aFn_spec (hT _ _ hTf)
  refine ⟨callFunc_run hf hb hn xs, ?_⟩
  refine callsDIn_of_wpS hf hb (fun c₀ cs hu => ?_)
  have hts := enter_vr fn.ntmps hx
  rw [hnt] at h
  have hdm : dmR ρ (m.map fun v => (v, false)) u := by
    cases m with
    | none => exact hm
    | some v => exact hm
  have hc0 : ({ c₀ with mode := u } : Frame) = c₀ := by subst hu; rfl
  have key : ∀ x s m1, e.codeD afn.code { ts := Tmps.enter fn.ntmps args, ds := [], H := H } (m.map fun v => (v, false)) = some (x, s, m1) → (x = .normal ∨ x = .jump .ret) →
      (match s.ds, resV s.ts s.H afn.results with
      | [], some _ => (match m1 with | none => some (none, s.H) | some (_, true) => some (none, s.H) | some (v, false) => some (some v, s.H) : Option (Option Value × AHeap))
      | _, _ => none) = some (m', H') →
      c.wpS P (bodyPostS P fn c₀ cs fun ex u' w' => (∃ y, ex = .returned y) ∧ ∃ ρ', Ext P ρ H w ρ' H' w' ∧ Clo ρ' H' ∧ modeR ρ' m' (settle u')) { tmps := xs ++ Array.replicate (fn.ntmps - xs.size) undef, defers := [] } (c₀ :: cs) w := by
    intro x s m1 hcd hx1 hfin
    have hh := he c afn.code _ _ x s m1 hcode hcd ρ { tmps := xs ++ Array.replicate (fn.ntmps - xs.size) undef, defers := [] } w c₀ cs u ⟨hr, hc, hts, rfl⟩ hdm
    rw [hc0] at hh
    refine wpS_mono hh ?_
    rintro ex a1 cs1 w1 ⟨ρ1, x01, st1, hxr, u1, rfl, hm1⟩
    split at hfin
    rotate_left
    · cases hfin
    rename_i v hds hrv
    have hd0 : a1.defers = [] := by
      have := st1.ds
      rw [hds] at this
      simpa only [defsR] using this
    obtain ⟨y, hy, _⟩ := resV_ok st1.rel st1.ts hres hrv
    have hfin2 : s.H = H' ∧ modeR ρ1 m' (settle u1) := by
      cases m1 with
      | none =>
        simp only [Option.some.injEq, Prod.mk.injEq] at hfin
        obtain ⟨rfl, rfl⟩ := hfin
        simp only [dmR] at hm1
        subst hm1
        exact ⟨rfl, rfl⟩
      | some vb =>
        obtain ⟨v1, b1⟩ := vb
        obtain ⟨z, rfl, hz⟩ := hm1
        cases b1 with
        | true =>
          simp only [Option.some.injEq, Prod.mk.injEq] at hfin
          obtain ⟨rfl, rfl⟩ := hfin
          exact ⟨rfl, rfl⟩
        | false =>
          simp only [Option.some.injEq, Prod.mk.injEq] at hfin
          obtain ⟨rfl, rfl⟩ := hfin
          exact ⟨rfl, z, rfl, hz⟩
    obtain ⟨rfl, hmode⟩ := hfin2
    have hfinal : a1.defers = [] ∧ ∃ u', ({ c₀ with mode := u1 } :: cs : List Frame) = { c₀ with mode := u' } :: cs ∧ ∃ v, (results fn a1.tmps).run P w1 = .ok v w1 ∧ ((∃ y, Ending.returned v = .returned y) ∧ ∃ ρ', Ext P ρ H w ρ' s.H w1 ∧ Clo ρ' s.H ∧ modeR ρ' m' (settle u')) :=
      ⟨hd0, u1, rfl, y, hy, ⟨y, rfl⟩, ρ1, x01, st1.clo, hmode⟩
    rcases hx1 with rfl | rfl
    · simp only [xR] at hxr; subst hxr; exact hfinal
    · simp only [xR] at hxr; subst hxr; exact hfinal
  split at h
  · rename_i s m1 hcd
    exact key _ _ _ hcd (.inl rfl) h
  · rename_i s m1 hcd
    exact key _ _ _ hcd (.inr rfl) h
  · cases h

theorem leave_ok {T : Nat → Option AFn} (hT : TOk P T) {e : Ev} (he : CodeDOk P e) {afn : AFn} {fn : Func} (hres : IResOk P fn afn.results) {ts : Tmps} {tmps : Array Value} {ae : AE} {H' : AHeap} {R : Ending → World → Prop} :
    ∀ (ds : List Deferred) (m : Option Value) (H : AHeap), leave T e afn ts ds m H = some (ae, H') → ∀ (ρ : Rho) (ds' : List Deferred) (w : World) (u : FrameMode), Rel P ρ H w → Clo ρ H → vrA ρ ts.arr tmps → defsR ρ ds ds' → modeR ρ m u →
      (∀ ex w', (∃ ρ', Ext P ρ H w ρ' H' w' ∧ endR ρ' ae ex) → R ex w') → LeavesInM Fence.wide 0 P fn tmps R ds' u w
  | [], none, H, h, ρ, ds', w, u, hr, hc, ht, hd, hm, hR => by
    simp only [defsR] at hd
    subst hd
    simp only [modeR] at hm
    subst hm
    simp only [leave] at h
    split at h
    · rename_i v hv
      simp only [Option.some.injEq, Prod.mk.injEq] at h
      obtain ⟨rfl, rfl⟩ := h
      obtain ⟨y, hy, hvv⟩ := resV_ok hr ht hres hv
      exact ⟨y, hy, hR _ _ ⟨ρ, Ext.refl hr, y, rfl, hvv⟩⟩
    · cases h
  | [], some v, H, h, ρ, ds', w, u, hr, hc, ht, hd, hm, hR => by
    simp only [defsR] at hd
    subst hd
    obtain ⟨y, rfl, hv⟩ := hm
    simp only [leave, Option.some.injEq, Prod.mk.injEq] at h
    obtain ⟨rfl, rfl⟩ := h
    exact hR _ _ ⟨ρ, Ext.refl hr, y, rfl, hv⟩
  | d :: ds, m, H, h, ρ, ds', w, u, hr, hc, ht, hd, hm, hR => by
    obtain ⟨d', ds', rfl, hdd, hds⟩ := hd
    refine ⟨modeR_run hm, ?_⟩
    simp only [leave] at h
    obtain ⟨htgt, hargs⟩ := hdd
    split at h
    · rename_i rb hdt
      rw [hdt] at htgt
      simp only [tgtR] at htgt
      obtain ⟨p, hp, htgt⟩ := htgt
      split at h
      · rename_i hg
        obtain ⟨h1, h2, ds0, hh, hd0⟩ := hr.obj _ p _ hp hg
        simp only [defsR] at hd0
        subst hd0
        have hext := Ext.putO hr hp hg rfl (o' := .defd none) rfl (x := .deferred none) h1 h2 ⟨_, hh, rfl⟩ ⟨h1, h2, putObj_get (hr.lt rb p hp)⟩
        refine .inl ⟨p.B, _, htgt, run_takeDeferred hh, ?_⟩
        exact leave_ok hT he hres ds m _ h ρ ds' _ u hext.rel (hc.ext hext) (vrA_mono' hext.sub ht) (defsR_mono hext.sub hds) (modeR_mono hext.sub hm)
          (fun ex w' ⟨ρ', g1, g2⟩ => hR ex w' ⟨ρ', hext.trans g1, g2⟩)
      · cases h
    · rename_i f cap hdt
      rw [hdt] at htgt
      simp only [tgtR] at htgt
      obtain ⟨g, ys, htgt, hg, hcap⟩ := htgt
      simp only [fnr] at hg
      subst hg
      split at h
      · rename_i m1 H1 hcd
        have hxs : vrL ρ (d.args.toList ++ cap.toList) (d'.args ++ ys).toList := by
          rw [Array.toList_append]
          exact vrL_append (vrA_iff.1 hargs) (vrA_iff.1 hcap)
        obtain ⟨hcf, hcd'⟩ := callD_ok hT he hcd hr hc hxs hm
        refine .inr ⟨(fun hh => by cases hh), .func f, ys, f, d'.args ++ ys, htgt, ?_, fun _ _ => trivial, ?_⟩
        · rw [htgt]
          exact hcf w
        · refine CallsDIn.mono hcd' ?_
          rintro ex u1 w1 ⟨⟨y, rfl⟩, ρ1, x01, c1, hm1⟩
          exact leave_ok hT he hres ds m1 H1 h ρ1 ds' w1 (settle u1) x01.rel c1 (vrA_mono' x01.sub ht) (defsR_mono x01.sub hds) hm1
            (fun ex w' ⟨ρ', g1, g2⟩ => hR ex w' ⟨ρ', x01.trans g1, g2⟩)
      · cases h
    · cases h

/-- What is said of functions holds. -/
def GOk (P : Program) (Γ : Specs) : Prop := ∀ f args H r H', Γ f args H = some (r, H') → CallOk P f args H r H'

theorem stepCall_ok {T : Nat → Option AFn} (hT : TOk P T) {Γ : Specs} (hΓ : GOk P Γ) {e : Ev} (he : CodeOk P e) (hd : CodeDOk P e) : ∀ f args H r H', stepCall T Γ e f args H = some (r, H') → CallOk P f args H r H' := by
  intro f args H r H' h
  unfold stepCall at h
  split at h
  · rename_i q hq
    obtain rfl := Option.some.inj h
    exact hΓ _ _ _ _ _ hq
  · split at h
    · cases h
    rename_i afn hTf
    obtain ⟨fn, c, hf, hb, hn, hcode, hnt, hres⟩ := aFn_spec (hT _ _ hTf)
    refine ⟨fun xs w => callFunc_run hf hb hn xs w, fun ρ w xs hr hc hx => ?_⟩
    rw [hnt] at h
    have hts := enter_vr fn.ntmps hx
    have main : ∀ x s, e.code none afn.code { ts := Tmps.enter fn.ntmps args, ds := [], H := H } = some (x, s) →
        ∀ m, (∀ ρ1 ex, xR ρ1 x ex → (m = none ∧ (ex = .normal ∨ ex = .ret)) ∨ ∃ v y, m = some v ∧ ex = .panic [{ v := y, recovered := false }] ∧ vr ρ1 v y) → leave T e afn s.ts s.ds m s.H = some (r, H') →
        CallsIn Fence.wide 0 P f xs w fun e w' => ∃ ρ', Ext P ρ H w ρ' H' w' ∧ endR ρ' r e := by
      intro x s hcd m hxm hlv
      refine callsIn_of_wp_marks hf hb trivial ?_
      refine wpIn_mono (he none c afn.code _ x s hcode hcd ρ none { tmps := xs ++ Array.replicate (fn.ntmps - xs.size) undef, defers := [] } w rfl ⟨hr, hc, hts, rfl⟩) ?_
      rintro ex a1 w1 ⟨ρ1, x01, st1, hxr⟩
      have hl : ∀ u, modeR ρ1 m u → LeavesInM Fence.wide 0 P fn a1.tmps (fun e w' => ∃ ρ', Ext P ρ H w ρ' H' w' ∧ endR ρ' r e) a1.defers u w1 := fun u hu =>
        leave_ok hT hd hres s.ds m s.H hlv ρ1 a1.defers w1 u st1.rel st1.clo st1.ts st1.ds hu (fun ex w' ⟨ρ', g1, g2⟩ => ⟨ρ', x01.trans g1, g2⟩)
      rcases hxm ρ1 ex hxr with ⟨rfl, rfl | rfl⟩ | ⟨v, y, rfl, rfl, hv⟩
      · exact hl _ rfl
      · exact hl _ rfl
      · exact hl _ ⟨y, rfl, hv⟩
    split at h
    · rename_i s hcd
      exact main _ s hcd none (fun ρ1 ex hx => .inl ⟨rfl, .inl (by simpa only [xR] using hx)⟩) h
    · rename_i s hcd
      exact main _ s hcd none (fun ρ1 ex hx => .inl ⟨rfl, .inr (by simpa only [xR] using hx)⟩) h
    · rename_i v s hcd
      exact main _ s hcd (some v) (fun ρ1 ex hx => .inr (by obtain ⟨y, e1, e2⟩ := hx; exact ⟨v, y, rfl, e1, e2⟩)) h
    · cases h

structure EvOk (P : Program) (e : Ev) : Prop where
  code : CodeOk P e
  scope : ScopeOk P e
  loop : LoopOk P e
  call : CallsOk P e
  codeD : CodeDOk P e

theorem evOk {draw : DrawFn} (hdraw : DrawOk P draw) {T : Nat → Option AFn} (hT : TOk P T) {Γ : Specs} (hΓ : GOk P Γ) : ∀ n, EvOk P (evAt draw T Γ n)
  | 0 => { code := fun rd c ic s x s' _ h => (by cases h), scope := fun _ _ _ _ _ _ _ _ _ _ h => (by cases h), loop := fun _ _ _ _ _ _ _ h => (by cases h),
           call := fun _ _ _ _ _ h => (by cases h), codeD := fun _ _ _ _ _ _ _ _ h => (by cases h) }
  | n + 1 =>
    have ih := evOk hdraw hT hΓ n
    { code := fun rd c ic s x s' hc h ρ r a w => stepCode_ok hdraw ih.code ih.call ih.scope ih.loop rd c ic s x s' hc h ρ r a w
      scope := fun rd body ib cur ic s x s' hb hc h ρ r a w hrd hs => stepScope_ok ih.code ih.scope hb hc h hrd hs
      loop := fun rd c ic s x s' hc h ρ r a w hrd hs => stepLoop_ok ih.code ih.loop hc h hrd hs
      call := stepCall_ok hT hΓ ih.code ih.codeD
      codeD := stepCodeD_ok ih.codeD ih.call }

end Go.Abs
