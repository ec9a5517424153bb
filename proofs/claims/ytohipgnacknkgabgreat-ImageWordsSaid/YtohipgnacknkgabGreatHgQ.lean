/-
  ABS, part Q: the abstract machine is what the model does (two: code). (Own work.)
-/
import Derived.Test.YtohipgnacknkgabGreatHgP
set_option linter.unusedSimpArgs false
set_option linter.unusedVariables false
namespace Go.Abs
open Go

variable {P : Program}

theorem cOper_spec {ops : Array Oper} {o : Oper} {io : IOper} (h : cOper P ops o = some io) : io.dst = o.dst ∧ cOp P o = some io.op ∧ cGuard ops o = some io.guard := by
  simp only [cOper, Option.bind_eq_bind, Option.bind_eq_some_iff, Option.pure_def, Option.some.injEq] at h
  obtain ⟨x, hx, g, hg, rfl⟩ := h
  exact ⟨rfl, hx, hg⟩

theorem cOp_defer {o : Oper} {c : Call} {io : IOp} (ho : o.op = .defer c) (h : cOp P o = some io) : ∃ f args, io = .defer f args := by
  simp only [cOp, ho] at h
  split at h
  · simp only [Option.bind_eq_bind, Option.bind_eq_some_iff, Option.pure_def, Option.some.injEq] at h
    obtain ⟨f, _, args, _, rfl⟩ := h
    exact ⟨_, _, rfl⟩
  · cases h

theorem stepOp_ok {e : Ev} (he : CodeOk P e) (hcall : CallsOk P e) {ops : Array Oper} {o : Oper} {io : IOper} {rd r : Option Nat} {s s' : ASt} {x : AX} {ρ : Rho} {a : Act} {w : World}
    (hc : cOper P ops o = some io) (h : stepOp e rd io s = some (x, s')) (hrd : rdR ρ rd r) (hs : StR P ρ s a w) {next : Act → World → Prop} {Q : Exit → Act → World → Prop}
    (hn : x = .normal → ∀ ρ' a' w', Ext P ρ s.H w ρ' s'.H w' → StR P ρ' s' a' w' → next a' w')
    (hp : ∀ v, x = .panic v → ∀ ρ' y w', Ext P ρ s.H w ρ' s'.H w' → StR P ρ' s' a w' → vr ρ' v y → Q (.panic [{ v := y, recovered := false }]) a w') :
    if Region.wanted o (yielded ops a.tmps) = true then o.wpIn (fen r) 0 P a w next Q else (∀ f, o.about P w a.eval = some f → (fen r).fn f) ∧ next (a.put o.dst undef) w := by
  obtain ⟨hd, hop, hg⟩ := cOper_spec hc
  unfold stepOp at h
  simp only [aopK_eq] at h
  cases hw : want io.guard s.ts with
  | none => simp only [hw, reduceCtorEq] at h
  | some b =>
    have hwb := want_ok hg hs.ts hw
    cases b with
    | false =>
      simp only [hw, Option.some.injEq, Prod.mk.injEq] at h
      obtain ⟨rfl, rfl⟩ := h
      rw [if_neg (by rw [hwb]; decide)]
      refine ⟨fun _ _ => trivial, hn rfl ρ _ w (by rw [ASt.put_H]; exact Ext.refl hs.rel) ?_⟩
      rw [← hd]
      exact hs.put io.dst (vr_undef ρ)
    | true =>
      simp only [hw] at h
      rw [if_pos hwb]
      refine ⟨fun _ _ => trivial, ?_⟩
      cases hap : aop io.op (aev s.ts) s.H with
      | none => simp only [hap, reduceCtorEq] at h
      | some rH =>
        obtain ⟨ar, H1⟩ := rH
        simp only [hap] at h
        obtain ⟨ρ1, w1, hext, hout⟩ := op_sound hs.rel (evR_aev hs.ts) (fun _ => rfl) hop hs.clo.fresh hap
        have hst := hs.next hext
        have hsem : rd.isSome = true → (∀ d, ar ≠ .defer d) → Oper.semAt (fen r).round a.eval o = execOp a.eval o := by
          intro _ hnd
          refine Oper.semAt_eq _ _ _ (fun c ho => ?_)
          obtain ⟨f, args, hio⟩ := cOp_defer ho hop
          rw [hio] at hap
          simp only [aop] at hap
          split at hap
          · simp only [Option.some.injEq, Prod.mk.injEq] at hap
            exact hnd _ hap.1.symm
          · cases hap
        have hsem' : (∀ d, ar ≠ .defer d) → Oper.semAt (fen r).round a.eval o = execOp a.eval o := by
          intro hnd
          cases rd with
          | none => simp only [rdR] at hrd; subst hrd; rfl
          | some l => exact hsem rfl hnd
        cases ar with
        | val v =>
          simp only [Option.some.injEq, Prod.mk.injEq] at h
          obtain ⟨rfl, rfl⟩ := h
          obtain ⟨y, hres, hv⟩ := hout
          rw [hsem' (fun _ => by simp), hres, Oper.uponIn_value]
          refine hn rfl ρ1 _ w1 (by rw [ASt.put_H]; exact hext) ?_
          rw [← hd]
          exact hst.put io.dst hv
        | skip =>
          simp only [Option.some.injEq, Prod.mk.injEq] at h
          obtain ⟨rfl, rfl⟩ := h
          simp only [outR] at hout
          rw [hsem' (fun _ => by simp), hout, Oper.uponIn_skip]
          refine hn rfl ρ1 _ w1 (by rw [ASt.put_H]; exact hext) ?_
          rw [← hd]
          exact hst.put io.dst (vr_undef ρ1)
        | panic v =>
          simp only [Option.some.injEq, Prod.mk.injEq] at h
          obtain ⟨rfl, rfl⟩ := h
          obtain ⟨y, hres, hv⟩ := hout
          rw [hsem' (fun _ => by simp), hres, Oper.uponIn_panic]
          exact hp v rfl ρ1 y w1 hext hst hv
        | enter f args =>
          obtain ⟨xs, hres, hxs⟩ := hout
          simp only at h
          cases hcl : e.call f args H1 with
          | none => simp only [hcl, reduceCtorEq] at h
          | some q =>
            obtain ⟨ae, H2⟩ := q
            simp only [hcl] at h
            obtain ⟨hcf, hco⟩ := hcall f args H1 ae H2 hcl
            have hci := hco ρ1 w1 xs hst.rel hst.clo hxs
            rw [hsem' (fun _ => by simp), hres, hcf, Oper.uponIn_enter]
            refine ⟨(fun hh => by cases hh), ?_⟩
            refine CallsIn.mono (callsIn_fen hci) ?_
            rintro e2 w2 ⟨ρ2, hext2, hend⟩
            have hst2 := hst.next hext2
            cases ae with
            | ret v =>
              simp only [Option.some.injEq, Prod.mk.injEq] at h
              obtain ⟨rfl, rfl⟩ := h
              obtain ⟨y, rfl, hv⟩ := hend
              refine hn rfl ρ2 _ w2 (by rw [ASt.put_H]; exact hext.trans hext2) ?_
              rw [← hd]
              exact hst2.put io.dst hv
            | panic v =>
              simp only [Option.some.injEq, Prod.mk.injEq] at h
              obtain ⟨rfl, rfl⟩ := h
              obtain ⟨y, rfl, hv⟩ := hend
              exact hp v rfl ρ2 y w2 (hext.trans hext2) hst2 hv
        | round l args =>
          obtain ⟨p, xs, hp1, hres, hxs⟩ := hout
          simp only at h
          cases hcl : stepRound e l args H1 with
          | none => simp only [hcl, reduceCtorEq] at h
          | some q =>
            obtain ⟨v, H2⟩ := q
            simp only [hcl, Option.some.injEq, Prod.mk.injEq] at h
            obtain ⟨rfl, rfl⟩ := h
            obtain ⟨f, tmps, assign, body, hy, hround⟩ := round_ok he hcl (r := r) hst.rel hst.clo hp1 hxs
            rw [hsem' (fun _ => by simp), hres, hy, Oper.uponIn_round]
            refine ⟨(fun hh => by cases hh), ?_⟩
            refine RoundIn.mono hround ?_
            rintro e2 w2 ⟨ρ2, hext2, y, rfl, hv⟩
            refine hn rfl ρ2 _ w2 (by rw [ASt.put_H]; exact hext.trans hext2) ?_
            rw [← hd]
            exact (hst.next hext2).put io.dst hv
        | defer d =>
          cases rd with
          | some l => simp only [reduceCtorEq] at h
          | none =>
            simp only [rdR] at hrd
            subst hrd
            simp only [Option.some.injEq, Prod.mk.injEq] at h
            obtain ⟨rfl, rfl⟩ := h
            obtain ⟨d', hres, hdd⟩ := hout
            show o.uponIn (fen none) 0 P a next Q ((Oper.semAt none a.eval o).run P w)
            rw [Oper.semAt_none, hres, Oper.uponIn_defer]
            refine hn rfl ρ1 _ w1 (by rw [ASt.put_H]; exact hext) ?_
            rw [← hd]
            have hst' : StR P ρ1 { s with H := H1, ds := d :: s.ds } { a with defers := d' :: a.defers } w1 := ⟨hst.rel, hst.clo, hst.ts, d', a.defers, rfl, hdd, hst.ds⟩
            exact hst'.put io.dst (vr_undef ρ1)
        | recover => simp only [reduceCtorEq] at h

theorem stepOp_nojump {e : Ev} {rd : Option Nat} {io : IOper} {s s' : ASt} {j : IJump} : stepOp e rd io s ≠ some (.jump j, s') := by
  intro h
  unfold stepOp at h
  repeat' split at h
  all_goals simp at h

/-- Operations in a row. -/
theorem stepOps_ok {e : Ev} (he : CodeOk P e) (hcall : CallsOk P e) {ops : Array Oper} {l : List IOper} {rd r : Option Nat} (hl : ∀ i : Nat, (ops[i]? = none ∧ l[i]? = none) ∨ ∃ o io, ops[i]? = some o ∧ l[i]? = some io ∧ cOper P ops o = some io) :
    ∀ (is : List Nat) {s s' : ASt} {x : AX} {ρ : Rho} {a : Act} {w : World}, stepOps e rd (is.filterMap fun (i : Nat) => l[i]?) s = some (x, s') → rdR ρ rd r → StR P ρ s a w →
      ∀ (Q : Exit → Act → World → Prop), (∀ ex a' w', Post P ρ s.H w x s' ex a' w' → Q ex a' w') → wpOpsIn (fen r) 0 P ops Q is a w
  | [], s, s', x, ρ, a, w, h, hrd, hs, Q, hQ => by
    simp only [List.filterMap_nil, stepOps, Option.some.injEq, Prod.mk.injEq] at h
    obtain ⟨rfl, rfl⟩ := h
    exact hQ _ _ _ ⟨ρ, Ext.refl hs.rel, hs, rfl⟩
  | i :: is, s, s', x, ρ, a, w, h, hrd, hs, Q, hQ => by
    simp only [wpOpsIn]
    rcases hl i with ⟨h1, h2⟩ | ⟨o, io, h1, h2, h3⟩
    · simp only [h1]
      simp only [List.filterMap_cons, h2] at h
      exact stepOps_ok he hcall hl is h hrd hs Q hQ
    · simp only [h1]
      simp only [List.filterMap_cons, h2, stepOps] at h
      cases hst : stepOp e rd io s with
      | none => simp only [hst, reduceCtorEq] at h
      | some q =>
        obtain ⟨x1, s1⟩ := q
        simp only [hst] at h
        refine stepOp_ok he hcall h3 hst hrd hs ?_ ?_
        · rintro rfl ρ' a' w' hext hst'
          simp only at h
          exact stepOps_ok he hcall hl is h (rdR_mono hext.sub hrd) hst' Q (fun ex a2 w2 hh => hQ _ _ _ (Post.trans hext hh))
        · rintro v rfl ρ' y w' hext hst' hv
          simp only [Option.some.injEq, Prod.mk.injEq] at h
          obtain ⟨rfl, rfl⟩ := h
          exact hQ _ _ _ ⟨ρ', hext, hst', y, rfl, hv⟩

theorem mapM_get {α β : Type} {f : α → Option β} : ∀ {l : List α} {l' : List β}, l.mapM f = some l' → ∀ i : Nat, (l[i]? = none ∧ l'[i]? = none) ∨ ∃ x y, l[i]? = some x ∧ l'[i]? = some y ∧ f x = some y
  | [], l', h, i => by
    simp at h
    subst h
    exact .inl ⟨by simp, by simp⟩
  | x :: l, l', h, i => by
    simp only [List.mapM_cons, Option.bind_eq_bind, Option.bind_eq_some_iff, Option.pure_def, Option.some.injEq] at h
    obtain ⟨y, hy, ys, hys, rfl⟩ := h
    cases i with
    | zero => exact .inr ⟨x, y, by simp, by simp, hy⟩
    | succ i => simpa using mapM_get hys i

theorem ops_get {ops : Array Oper} {l : List IOper} (h : ops.toList.mapM (cOper P ops) = some l) : ∀ i : Nat, (ops[i]? = none ∧ l[i]? = none) ∨ ∃ o io, ops[i]? = some o ∧ l[i]? = some io ∧ cOper P ops o = some io := by
  intro i
  simpa using mapM_get h i

theorem mapM_length {α β : Type} {f : α → Option β} : ∀ {l : List α} {l' : List β}, l.mapM f = some l' → l'.length = l.length
  | [], l', h => by simp at h; subst h; rfl
  | x :: l, l', h => by
    simp only [List.mapM_cons, Option.bind_eq_bind, Option.bind_eq_some_iff, Option.pure_def, Option.some.injEq] at h
    obtain ⟨y, hy, ys, hys, rfl⟩ := h
    simp [mapM_length hys]

theorem range_filterMap {α : Type} : ∀ (l : List α), (List.range l.length).filterMap (fun (i : Nat) => l[i]?) = l
  | [] => rfl
  | x :: l => by
    rw [List.length_cons, List.range_succ_eq_map, List.filterMap_cons]
    simp only [List.getElem?_cons_zero, List.filterMap_map]
    congr 1
    exact range_filterMap l

/-! ### Loops over functions -/

theorem run_enterLoop_round {w : World} (fn : FuncId) (tmps : Array Value) (ps : Array Tmp) (assign body : Code) {l : Nat} {c : Loop} (h : w.heap[l]? = some (.loop c)) :
    (Instr.enterLoop fn tmps ps assign body (some l)).run P w =
      .ok (w.heap.size, []) (World.push w (.loop { state := .ready, pending := none, fn, tmps, params := ps, assign, body, defers := c.defers })) := by
  unfold Instr.enterLoop
  simp only [Sem.run_bind, run_getLoop h, Result.andThen_ok, Sem.run_pure, run_newObj]
  rfl

theorem enterL_ok {rd r : Option Nat} {s : ASt} {ps : Array Tmp} {ia ib : ICode} {assign body : Code} {l : Nat} {mark : List Deferred} {H1 : AHeap} {ρ : Rho} {a : Act} {w : World}
    (h : enterL rd s ps ia ib = some (l, mark, H1)) (ha : cCode P assign = some ia) (hb : cCode P body = some ib) (hrd : rdR ρ rd r) (hs : StR P ρ s a w) (fn : FuncId) :
    ∃ ρ1 p mark' w1, (Instr.enterLoop fn a.tmps ps assign body r).run P w = .ok (p.B, mark') w1 ∧ Ext P ρ s.H w ρ1 H1 w1 ∧ ρ1 l = some p ∧ defsR ρ1 mark mark' := by
  cases rd with
  | none =>
    simp only [rdR] at hrd
    subst hrd
    simp only [enterL, Option.some.injEq, Prod.mk.injEq] at h
    obtain ⟨rfl, rfl, rfl⟩ := h
    have h0 : ρ s.H.size = none := hs.clo.fresh (H' := s.H.push .dead) _ (Nat.le_refl _) (by simp)
    have x1 := Ext.alloc hs.rel h0 (.deferred (some [])) (.defd (some [])) 1 0 ⟨rfl, rfl, [], push_get w _, rfl⟩
    have c1 := hs.clo.ext x1
    have h1 : (upd ρ s.H.size ⟨w.heap.size, 0, 1, 0⟩) (s.H.push (.defd (some []))).size = none := c1.fresh (H' := (s.H.push (.defd (some []))).push .dead) _ (Nat.le_refl _) (by simp)
    have hsz : (World.push w (.deferred (some []))).heap.size = w.heap.size + 1 := by simp [World.push]
    have x2 := Ext.alloc x1.rel h1 (.loop { state := .ready, pending := none, fn := fn, tmps := a.tmps, params := ps, assign := assign, body := body, defers := w.heap.size })
      (.loop { state := .ready, pending := none, tmps := s.ts, params := ps, assign := ia, body := ib, defers := s.H.size }) 1 0
      ⟨rfl, rfl, _, push_get _ _, rfl, rfl, vrA_mono' (upd_le h1) (vrA_mono' (upd_le h0) hs.ts), rfl, ha, hb, ⟨w.heap.size, 0, 1, 0⟩, upd_le h1 _ _ (upd_same _ _ _), rfl⟩
    refine ⟨_, ⟨w.heap.size + 1, 0, 1, 0⟩, [{ target := .collected w.heap.size, args := #[] }], _, run_enterLoop_outer fn a.tmps ps assign body, x1.trans x2, ?_, ?_⟩
    · have := upd_same (upd ρ s.H.size ⟨w.heap.size, 0, 1, 0⟩) (s.H.push (.defd (some []))).size ⟨(World.push w (.deferred (some []))).heap.size, 0, 1, 0⟩
      rw [hsz] at this
      rw [hsz]
      simp
    · exact ⟨_, [], rfl, ⟨⟨_, upd_le h1 _ _ (upd_same _ _ _), rfl⟩, by simp only [vrA, vrL]⟩, rfl⟩
  | some l0 =>
    obtain ⟨p0, hp0, rfl⟩ := hrd
    simp only [enterL] at h
    split at h
    · rename_i L hg
      simp only [Option.some.injEq, Prod.mk.injEq] at h
      obtain ⟨rfl, rfl, rfl⟩ := h
      obtain ⟨c, hh, hl⟩ := hs.rel.getLoop hp0 hg
      obtain ⟨_, _, _, _, _, _, q, hq, hqe⟩ := hl
      have h0 : ρ s.H.size = none := hs.clo.fresh (H' := s.H.push .dead) _ (Nat.le_refl _) (by simp)
      have x1 := Ext.alloc hs.rel h0 (.loop { state := .ready, pending := none, fn := fn, tmps := a.tmps, params := ps, assign := assign, body := body, defers := c.defers })
        (.loop { state := .ready, pending := none, tmps := s.ts, params := ps, assign := ia, body := ib, defers := L.defers }) 1 0
        ⟨rfl, rfl, _, push_get _ _, rfl, rfl, vrA_mono' (upd_le h0) hs.ts, rfl, ha, hb, q, upd_le h0 _ _ hq, hqe⟩
      exact ⟨_, ⟨w.heap.size, 0, 1, 0⟩, [], _, run_enterLoop_round fn a.tmps ps assign body hh, x1, upd_same _ _ _, rfl⟩
    · cases h

theorem defsR_append {ρ : Rho} : ∀ {ds ds' es es' : List Deferred}, defsR ρ ds ds' → defsR ρ es es' → defsR ρ (ds ++ es) (ds' ++ es')
  | [], _, _, _, h, h' => by simp only [defsR] at h; subst h; exact h'
  | _ :: _, _, _, _, ⟨e, l', h1, h2, h3⟩, h' => by subst h1; exact ⟨e, _, rfl, h2, defsR_append h3 h'⟩

theorem endL_ok {l : Nat} {s s' : ASt} {x : AX} (h : endL l s = some (x, s')) {ρ : Rho} {r : Option Nat} {a : Act} {w : World} (hs : StR P ρ s a w) {p : Pl} (hp : ρ l = some p)
    {Q : Exit → Act → World → Prop} (hQ : ∀ ex a' w', Post P ρ s.H w x s' ex a' w' → Q ex a' w') :
    ∃ jump w4, (Instr.endLoop p.B).run P w = .ok jump w4 ∧ (match jump with | none => Q .normal a w4 | some c => c.wpIn (fen r) 0 P Q a w4) := by
  unfold endL at h
  split at h
  rotate_left
  · cases h
  rename_i L hg
  obtain ⟨c, hh, hl⟩ := hs.rel.getLoop hp hg
  obtain ⟨l1, l2, l3, l4, l5, l6, q, l7, l8⟩ := hl
  have key : L.state ≠ .busy → ∃ w4, (Instr.endLoop p.B).run P w = .ok c.pending w4 ∧ Ext P ρ s.H w ρ (s.H.set l (.loop { L with state := .exhausted })) w4 := by
    intro hb
    exact ⟨_, run_endLoop hh (by rw [l1]; exact hb), hs.rel.setLoop hp hg ⟨rfl, l2, l3, l4, l5, l6, q, l7, l8⟩⟩
  split at h
  · cases h
  rename_i hb
  obtain ⟨w4, hrun, hext⟩ := key (fun hh => hb hh)
  have hst := hs.next hext
  simp only at h
  split at h
  · rename_i hpd
    simp only [Option.some.injEq, Prod.mk.injEq] at h
    obtain ⟨rfl, rfl⟩ := h
    rw [hpd] at l2
    simp only [jumpR] at l2
    refine ⟨none, w4, by rw [hrun, l2], ?_⟩
    exact hQ _ _ _ ⟨ρ, hext, hst, rfl⟩
  · rename_i j hpd
    simp only [Option.some.injEq, Prod.mk.injEq] at h
    obtain ⟨rfl, rfl⟩ := h
    rw [hpd] at l2
    cases j with
    | exit id =>
      simp only [jumpR] at l2
      exact ⟨_, w4, by rw [hrun, l2], wpIn_exit (hQ _ _ _ ⟨ρ, hext, hst, rfl⟩)⟩
    | goto t =>
      simp only [jumpR] at l2
      exact ⟨_, w4, by rw [hrun, l2], wpIn_goto (hQ _ _ _ ⟨ρ, hext, hst, rfl⟩)⟩
    | ret =>
      simp only [jumpR] at l2
      exact ⟨_, w4, by rw [hrun, l2], wpIn_ret (hQ _ _ _ ⟨ρ, hext, hst, rfl⟩)⟩

theorem stepRF_ok {e : Ev} (hcall : CallsOk P e) {rd r : Option Nat} {f : Operand} {ps : Array Tmp} {ia ib : ICode} {assign body : Code} {g : Operand} {s s' : ASt} {x : AX} {ρ : Rho} {a : Act} {w : World}
    (hf : cOpd g = some f) (ha : cCode P assign = some ia) (hb : cCode P body = some ib) (h : stepRF e rd f ps ia ib s = some (x, s')) (hrd : rdR ρ rd r) (hs : StR P ρ s a w) :
    (Code.rangeFunc g ps assign body).wpIn (fen r) 0 P (Post P ρ s.H w x s') a w := by
  unfold stepRF at h
  split at h
  rotate_left
  · cases h
  rename_i g0 first captured l mark H1 hv hent
  refine wpIn_rangeFunc (fun fn _ => ?_)
  obtain ⟨ρ1, p, mark', w1, hrun, x1, hp, hmark⟩ := enterL_ok hent ha hb hrd hs fn
  have hst1 := hs.next x1
  have hev := evR_aev hs.ts g f _ hf hv
  simp only [vr] at hev
  obtain ⟨gg, xs, ys, hge, hgg, h1, h2⟩ := hev
  simp only [fnr] at hgg
  subst hgg
  cases hcl : e.call g0 (first.toList ++ [.func (.yield l) #[] #[]] ++ captured.toList) H1 with
  | none => simp only [hcl, reduceCtorEq] at h
  | some q =>
    obtain ⟨ae, H2⟩ := q
    obtain ⟨hcf, hco⟩ := hcall _ _ _ _ _ hcl
    have hargs : vrL ρ1 (first.toList ++ [.func (.yield l) #[] #[]] ++ captured.toList) (xs ++ #[Value.func (.yield p.B) #[] #[]] ++ ys).toList := by
      simp only [Array.toList_append]
      refine vrL_append (vrL_append (vrA_iff.1 (vrA_mono' x1.sub h1)) ?_) (vrA_iff.1 (vrA_mono' x1.sub h2))
      simp only [vrL]
      refine ⟨_, _, rfl, ?_, rfl⟩
      simp only [vr]
      exact ⟨_, _, _, rfl, ⟨p, hp, rfl⟩, by simp only [vrA, vrL], by simp only [vrA, vrL]⟩
    refine ⟨p.B, mark', w1, { target := .fn (.func g0) ys, args := xs ++ #[.func (.yield p.B) #[] #[]] }, w1, g0, xs ++ #[.func (.yield p.B) #[] #[]] ++ ys, w1, hrun, ?_, fun _ _ => trivial, ?_, (fun hh => by cases hh), ?_⟩
    · simp only [resolve, rangeCall, Deferred.ofValue, hge]
      simp [Act.eval]
    · simp only [invoke]
      exact hcf _ _
    · refine CallsIn.mono (callsIn_fen (hco ρ1 w1 _ hst1.rel hst1.clo hargs)) ?_
      rintro e2 w2 ⟨ρ2, x2, hend⟩
      have hst2 : StR P ρ2 { s with H := H2, ds := mark ++ s.ds } { a with defers := mark' ++ a.defers } w2 := by
        have := hst1.next x2
        exact ⟨this.rel, this.clo, this.ts, defsR_append (defsR_mono x2.sub hmark) this.ds⟩
      simp only [hcl] at h
      cases ae with
      | ret v =>
        obtain ⟨y, rfl, _⟩ := hend
        exact endL_ok h hst2 (x2.sub _ _ hp) (fun ex a' w' hh => Post.trans (x1.trans x2) hh)
      | panic v =>
        simp only [Option.some.injEq, Prod.mk.injEq] at h
        obtain ⟨rfl, rfl⟩ := h
        obtain ⟨y, rfl, hvv⟩ := hend
        exact ⟨ρ2, x1.trans x2, hst2, y, rfl, hvv⟩

end Go.Abs
