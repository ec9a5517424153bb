/-
  ABS, part W: a region that draws the order of its operations is what the model does. (Own work.)
-/
import Derived.Test.YtohipgnacknkgabGreatHgV
set_option linter.unusedSimpArgs false
set_option linter.unusedVariables false
namespace Go.Abs
open Go

variable {P : Program}

theorem Ext.grow {ρ : Rho} {H HE : AHeap} {w : World} (h : Rel P ρ H w) (hc : Clo ρ H) (hs : H.size ≤ HE.size) (hg : ∀ x, x < H.size → HE.get x = H.get x) : Ext P ρ H w ρ HE w := by
  have hget : ∀ b p, ρ b = some p → HE.get b = H.get b := fun b p hb => hg b (hc b p hb)
  refine { sub := Rho.le.refl ρ, size := hs, new := fun _ _ h => .inl h, rel := ⟨fun b p o hb ho => ?_, fun b b' p p' o o' hne hb hb' ho ho' hw hl => ?_, h.lt⟩, wsize := Nat.le_refl _, keepC := fun _ c _ _ hc => ⟨c, hc, rfl, fun _ _ => rfl⟩, keepO := fun _ _ h _ _ => h, own := ?_, unm := fun b hb _ => hg b hb, os := rfl, out := rfl, tape := rfl }
  · rw [hget b p hb] at ho
    exact h.obj b p o hb ho
  · rw [hget b p hb] at ho
    rw [hget b' p' hb'] at ho'
    exact h.sep b b' p p' o o' hne hb hb' ho ho' hw hl
  · rintro B i _ ⟨b, p, o, hb, ho, hw, e1, e2, e3⟩
    rw [hget b p hb] at ho
    exact ⟨b, p, o, hb, ho, hw, e1, e2, e3⟩

/-- A block that was there unmapped is mapped, as the memory is made. -/
theorem Ext.late {ρ0 ρ : Rho} {H0 H : AHeap} {w0 w : World} (x : Ext P ρ0 H0 w0 ρ H w) {id : Nat} {cs : List Value} {sz : Nat} {ys : Array Value} (h1 : H0.size ≤ id) (h2 : id < H.size) (hn : ρ id = none)
    (hg : H.get id = some (.cells cs false sz)) (hv : vrL ρ cs ys.toList) (t : TypeId) :
    Ext P ρ0 H0 w0 (upd ρ id ⟨w.heap.size, 0, ys.size, sz⟩) H (World.push w (.cells ys t)) := by
  have h := x.rel
  have hsub := upd_le (p := ⟨w.heap.size, 0, ys.size, sz⟩) hn
  have hold : ∀ B, B < w.heap.size → (World.push w (.cells ys t)).heap[B]? = w.heap[B]? := fun B hB => by
    simp only [World.push, Array.getElem?_push]
    rw [if_neg (by omega)]
  have hcase : ∀ b p, upd ρ id ⟨w.heap.size, 0, ys.size, sz⟩ b = some p → (b = id ∧ p = ⟨w.heap.size, 0, ys.size, sz⟩) ∨ (b ≠ id ∧ ρ b = some p) := by
    intro b p hp
    unfold upd at hp
    by_cases e : b = id
    · simp [e] at hp; exact .inl ⟨e, hp.symm⟩
    · simp [e] at hp; exact .inr ⟨e, hp⟩
  have hlen := vrL_length hv
  simp only [Array.length_toList] at hlen
  refine { sub := x.sub.trans hsub, size := x.size, new := ?_, rel := ⟨?_, ?_, ?_⟩, wsize := by have := x.wsize; simp [World.push]; omega, keepC := ?_, keepO := ?_, own := ?_, unm := x.unm, os := x.os, out := x.out, tape := x.tape }
  · intro b p hp
    rcases hcase b p hp with ⟨e, _⟩ | ⟨_, hp⟩
    · exact .inr ⟨by omega, by omega⟩
    · exact x.new b p hp
  · intro b p o hp ho
    rcases hcase b p hp with ⟨e, e2⟩ | ⟨e, hp⟩
    · subst e; subst e2
      rw [hg] at ho
      obtain rfl := Option.some.inj ho
      refine ⟨ys, t, _, push_get w _, by simp, by simp only; omega, rfl, fun i v' hi => ?_, fun _ i _ hh => ?_⟩
      · obtain ⟨y, hy, hr⟩ := vrL_get hv hi
        exact ⟨y, by simpa using hy, vr_mono hsub _ _ hr⟩
      · simp at hh
    · exact objR_mono hsub (h.obj b p o hp ho) (hold _ (h.lt b p hp))
  · intro b b' p p' o o' hne hp hp' ho ho' hw hl
    rcases hcase b p hp with ⟨e, e2⟩ | ⟨e, hp⟩ <;> rcases hcase b' p' hp' with ⟨e', e2'⟩ | ⟨e', hp'⟩
    · omega
    · subst e2
      left
      have := h.lt b' p' hp'
      simp only
      omega
    · subst e2'
      left
      have := h.lt b p hp
      simp only
      omega
    · exact h.sep b b' p p' o o' hne hp hp' ho ho' hw hl
  · intro b p hp
    rcases hcase b p hp with ⟨_, e2⟩ | ⟨_, hp⟩
    · subst e2; simp [World.push]
    · have := h.lt b p hp; simp [World.push]; omega
  · intro B c t' fr hc
    obtain ⟨c', k1, k2, k3⟩ := x.keepC B c t' fr hc
    exact ⟨c', by rw [hold B (Array.getElem?_eq_some_iff.1 k1).1]; exact k1, k2, k3⟩
  · intro B o ho hcells hno
    have k1 := x.keepO B o ho hcells hno
    rw [hold B (Array.getElem?_eq_some_iff.1 k1).1]
    exact k1
  · rintro B i hB ⟨b, p, o, hp, ho, hw, e, k1, k2⟩
    rcases hcase b p hp with ⟨_, e2⟩ | ⟨e', hp⟩
    · subst e2; simp only at e; have := x.wsize; omega
    · exact x.own B i hB ⟨b, p, o, hp, ho, hw, e, k1, k2⟩

def earlyM (n : Option Nat) (B : Nat) : Value :=
  match n with
  | none => .pointer (some ⟨B, 0, none⟩)
  | some k => .slice (some ⟨B, 0, none⟩) k k

/-- The value that an early operation yields. -/
theorem earlyV_vr {ρ : Rho} {n : Option Nat} {id B C sz : Nat} (hρ : ρ id = some ⟨B, 0, C, sz⟩) (hn : ∀ k, n = some k → k < openCap) :
    vr ρ (earlyV n id) (earlyM n B) := by
  cases n with
  | none =>
    simp only [earlyV, earlyM, vr]
    exact ⟨_, rfl, rfl, _, hρ, rfl⟩
  | some k =>
    unfold earlyV earlyM
    unfold vr slr
    exact ⟨rfl, _, hρ, .inl ⟨hn k rfl, Nat.le_refl _, rfl⟩⟩

/-- An early operation makes what was laid. -/
theorem early_ok {o : Oper} {io : IOp} {ρ : Rho} {ev : Operand → Value} {ev' : Operand → Option Value} {w : World} {cs : List Value} {sz : Nat} {n : Option Nat} (hearly : earlyOp o.op = true) (hc : cOp P o = some io) (he : evR ρ ev ev')
    (h : aEarly io ev' = some (cs, sz, n)) :
    ∃ ys t, (execOp ev o).run P w = .ok (.value (earlyM n w.heap.size)) (World.push w (.cells ys t)) ∧ vrL ρ cs ys.toList ∧ (∀ k, n = some k → k < openCap) := by
  match ho : o.op with
  | .alloc t =>
    simp only [cOp, ho, Option.bind_eq_bind, Option.bind_eq_some_iff, Option.pure_def, Option.some.injEq] at hc
    obtain ⟨z, hz, rfl⟩ := hc
    simp only [aEarly, Option.some.injEq, Prod.mk.injEq] at h
    obtain ⟨rfl, rfl, rfl⟩ := h
    have hflat := tzero_flat hz
    have hcells : vrL ρ z.cells.toList z.cells.toList := by
      have := vr_cells (flat_vr ρ z hflat)
      cases z <;> simpa [vcells, Value.cells] using this
    refine ⟨z.cells, t, ?_, hcells, by simp⟩
    have hnv : (newVar t z).run P w = .ok ⟨w.heap.size, 0, none⟩ (World.push w (.cells z.cells t)) := by
      simp only [Go.newVar, newRow, Sem.run_bind, run_newObj, Result.andThen_ok, Sem.run_pure]
      rfl
    simp [execOp, ho, Instr.alloc, run_zeroValue' hz, hnv, earlyM]
  | .buildSlice t len ps =>
    simp only [cOp, ho] at hc
    split at hc
    · rename_i elem hu
      simp only [Option.bind_eq_bind, Option.bind_eq_some_iff] at hc
      obtain ⟨s, hs, hc⟩ := hc
      split at hc
      · cases hc
      rename_i hbig
      simp only [Option.bind_eq_some_iff] at hc
      obtain ⟨z, hz, hc⟩ := hc
      split at hc
      · cases hc
      rename_i hzs
      simp only [Option.bind_eq_some_iff, Option.pure_def, Option.some.injEq] at hc
      obtain ⟨ps', hps, rfl⟩ := hc
      simp only [Bool.or_eq_true, decide_eq_true_eq, not_or, Decidable.not_not, Nat.not_le] at hzs
      simp only [aEarly] at h
      split at h
      rotate_left
      · cases h
      rename_i qs hq
      split at h
      rotate_left
      · cases h
      rename_i cs' hcs
      simp only [Option.some.injEq, Prod.mk.injEq] at h
      obtain ⟨rfl, rfl, rfl⟩ := h
      have hzero : vrL ρ ((List.range (len * s)).map fun i => z.cells.toList.getD (i % s) .nilFunc) ((Array.range (len * s)).map (z.cells[· % z.cells.size]!)).toList :=
        zeros_vr (tzero_flat hz) hzs.1 (by
          rcases Nat.eq_zero_or_pos s with h | h
          · right; simp [h]
          · left; exact h)
      obtain ⟨ds', g1, g2⟩ := fill_ok he (g := fun i => some (i * s, s)) (fun _ _ h => h) hps hq hcs hzero
      refine ⟨ds', elem, ?_, g2, fun k hk => by rw [← Option.some.inj hk]; exact Nat.lt_of_lt_of_le hzs.2 (Nat.le_refl _)⟩
      have g1' : Instr.fill (fun i => some (i * s, s)) ((Array.range (len * s)).map (z.cells[· % z.cells.size]!)) (ps.map fun (x : Nat × Operand) => (x.1, ev x.2)).toList = some ds' := by
        simpa using g1
      by_cases h0' : len * s = 0
      · have g2' : Instr.fill (fun i => some (i * s, s)) #[] (ps.map fun (x : Nat × Operand) => (x.1, ev x.2)).toList = some ds' := by
          rw [h0'] at g1'
          have e0 : (Array.range 0).map (z.cells[· % z.cells.size]!) = #[] := Array.eq_empty_of_size_eq_zero (by simp)
          rw [e0] at g1'
          exact g1'
        have e1 : (Array.range 0).map (fun _ => (default : Value)) = #[] := Array.eq_empty_of_size_eq_zero (by simp)
        have g3' : Instr.fill (fun i => some (i * s, s)) #[] (ps.toList.map fun (x : Nat × Operand) => (x.1, ev x.2)) = some ds' := by simpa using g2'
        simp [execOp, ho, Instr.buildSlice, run_underlying' hu, run_sizeOf' hs, h0', e1, g3', newRow, World.push, earlyM]
      · have g3' : Instr.fill (fun i => some (i * s, s)) ((Array.range (len * s)).map (z.cells[· % z.cells.size]!)) (ps.toList.map fun (x : Nat × Operand) => (x.1, ev x.2)) = some ds' := by simpa using g1'
        simp only [Nat.not_lt] at hbig
        simp [execOp, ho, Instr.buildSlice, run_underlying' hu, run_sizeOf' hs, h0', run_zeroValue' hz, g3', newRow, World.push, earlyM]
        omega
    · cases hc
  | .move _ | .assign _ | .pick _ _ _ | .box _ _ | .build _ _ | .load _ _ | .store _ _ _ | .nilCheck _ | .binOp _ _ _ _ _ | .unOp _ _ _ | .convert _ _ _ | .makeInterface _ _ | .makeFunc _ _ _ | .makeMap _ _ | .makeSlice _ _ _ | .slice _ _ _ _ _
  | .fieldAddr _ _ _ | .field _ _ _ | .indexAddr _ _ _ | .index _ _ _ | .lookup _ _ _ _ | .mapUpdate _ _ _ _ | .insert _ _ _ _ | .range _ _ | .next _ _ | .entry _ | .typeAssert _ _ _ _ | .extract _ _ | .defer _ | .panic _ | .call _
  | .ready _ | .waits _ | .sliceToArrayPointer _ _ | .makeChan _ _ | .mapEntry _ _ _ | .entryStore _ _ _ _ | .go _ | .send _ _ | .recv _ _ _ | .select _ _ => simp [earlyOp, ho] at hearly

/-- What lies ready, not yet mapped. -/
def Pending (ρ : Rho) (H HE : AHeap) (R : List DRec) (S : Nat → Bool) : Prop :=
  ∀ q, q ∈ R → q.i.cls = 1 → want q.o.guard q.ts = some true → S q.i.idx = false → ρ q.H.size = none ∧ H.get q.H.size = HE.get q.H.size

theorem sched_ok {e : Ev} (he : CodeOk P e) (hcall : CallsOk P e) {ops : Array Oper} {l : List IOper} (hl : ∀ i : Nat, (ops[i]? = none ∧ l[i]? = none) ∨ ∃ o io, ops[i]? = some o ∧ l[i]? = some io ∧ cOper P ops o = some io)
    {rd r0 : Option Nat} {s : ASt} {HE : AHeap} {R : List DRec} (hrun : RunOk e l s.ts s.H HE R) (hp : PairOk R) (hearly : ∀ q, q ∈ R → q.i.cls = 1 → ∀ o, ops[q.i.idx]? = some o → earlyOp o.op = true)
    (hquiet : ∀ q, q ∈ R → q.i.cls = 0 → q.o.op.cls = 0) (hw : ∀ q, q ∈ R → q.i.cls = 0 → window e q HE (louds R) = true) {ρ0 : Rho} {w0 : World} {Q : Exit → Act → World → Prop}
    (hQ : ∀ ex a' w', Post P ρ0 s.H w0 .normal { s with ts := tsF R (fun _ => true) s.ts, H := hF (louds R) (fun _ => true) HE } ex a' w' → Q ex a' w') :
    ∀ (is : List Nat) (S : Nat → Bool), Closed R S → Sched R S is → ∀ ρ a w, rdR ρ rd r0 → Ext P ρ0 s.H w0 ρ (hF (louds R) S HE) w → StR P ρ { s with ts := tsF R S s.ts, H := hF (louds R) S HE } a w → HE.size ≤ (hF (louds R) S HE).size →
      Pending ρ (hF (louds R) S HE) HE R S → wpOpsIn (fen r0) 0 P ops Q is a w
  | [], S, _, hall, ρ, a, w, _, hx, hs, _, _ => by
    have e1 : tsF R S s.ts = tsF R (fun _ => true) s.ts := tsF_congr hall
    have e2 : hF (louds R) S HE = hF (louds R) (fun _ => true) HE := hF_congr fun q hq => hall q (mem_louds.1 hq).1
    rw [e1, e2] at hs
    rw [e2] at hx
    exact hQ _ _ _ ⟨ρ, hx, hs, rfl⟩
  | i :: is, S, hcl, ⟨A, r, B, hR, hri, hnS, hanc, S', hS', hcl', hsch⟩, ρ, a, w, hrd, hx, hs, hsz, hpend => by
    simp only [wpOpsIn]
    have hrm : r ∈ R := by rw [hR]; simp
    obtain ⟨_, hlo⟩ := hrun.ats A r B hR
    rw [hri] at hlo
    rcases hl i with ⟨_, h2⟩ | ⟨o, io, h1, h2, h3⟩
    · rw [hlo] at h2; cases h2
    rw [hlo] at h2
    obtain rfl := Option.some.inj h2
    simp only [h1]
    obtain ⟨hag, hput, hnl, hld⟩ := step_state hrun hp hcl hR (by rw [hri]; exact hnS) hanc (S' := S') (fun x => by rw [hS', hri])
    have hSr : S' r.i.idx = true := by rw [hS', hri]; simp
    have hSmono : ∀ x, S' x = false → S x = false := by
      intro x hx'
      rw [hS'] at hx'
      simp at hx'
      exact hx'.1
    have hSne : ∀ q : DRec, S' q.i.idx = false → q.i.idx ≠ r.i.idx := by
      intro q hq hqe
      rw [hqe, hSr] at hq
      cases hq
    by_cases hc1 : r.i.cls = 1
    · -- memory that was made ready
      have hloud : r.i.loud = false := by simp [IInfo.loud, hc1]
      have eH := hnl hloud
      obtain ⟨hd, hop, hg⟩ := cOper_spec h3
      have hwant : want r.o.guard (tsF R S s.ts) = want r.o.guard r.ts := want_agree hag
      rcases hrun.early r hrm hc1 with ⟨hwf, hv⟩ | ⟨hwt, cs, sz, n, hae, hv, k1, k2, k3⟩
      · rw [← hwant] at hwf
        have hwb := want_ok hg hs.ts hwf
        rw [if_neg (by rw [hwb]; decide)]
        refine ⟨fun _ _ => trivial, ?_⟩
        have hst' : StR P ρ { s with ts := tsF R S' s.ts, H := hF (louds R) S' HE } (a.put o.dst undef) w := by
          have := hs.put r.o.dst (vr_undef ρ)
          rw [hd] at this
          refine ⟨by rw [eH]; exact hs.rel, by rw [eH]; exact hs.clo, ?_, ?_⟩
          · have h5 := this.ts
            rw [← hput, hv, hd]
            revert h5; cases o.dst <;> exact id
          · have h5 := this.ds
            revert h5; cases o.dst <;> exact id
        refine sched_ok he hcall hl hrun hp hearly hquiet hw hQ is S' hcl' hsch ρ _ w hrd (by rw [eH]; exact hx) hst' (by rw [eH]; exact hsz) ?_
        intro q hq hqc hqw hqS
        rw [eH]
        exact hpend q hq hqc hqw (hSmono _ hqS)
      · have hwt' := hwt
        rw [← hwant] at hwt'
        have hwb := want_ok hg hs.ts hwt'
        rw [if_pos hwb]
        refine ⟨fun _ _ => trivial, ?_⟩
        have hae' : aEarly r.o.op (aev (tsF R S s.ts)) = some (cs, sz, n) := by
          rw [← hae]
          have hagop := hag.op
          cases hio : r.o.op <;> simp only [aEarly]
          case buildSlice a b c ps =>
            rw [hio] at hagop
            rw [evParts_agree (by simpa only [IOp.reads] using hagop)]
        obtain ⟨hpn, hpg⟩ := hpend r hrm hc1 hwt (by rw [hri]; exact hnS)
        obtain ⟨ys, t, hrunop, hys, hnk⟩ := early_ok (w := w) (hearly r hrm hc1 o (by rw [hri]; exact h1)) hop (evR_aev hs.ts) hae'
        have hgid : (hF (louds R) S HE).get r.H.size = some (.cells cs false sz) := by rw [hpg]; exact k3
        have hx' := hx.late (id := r.H.size) k1 (by omega) hpn hgid hys t
        have hsub := upd_le (p := ⟨w.heap.size, 0, ys.size, sz⟩) hpn
        have hsem : Oper.semAt (fen r0).round a.eval o = execOp a.eval o := by
          refine Oper.semAt_eq _ _ _ (fun c ho => ?_)
          have := hearly r hrm hc1 o (by rw [hri]; exact h1)
          rw [ho] at this
          simp [earlyOp] at this
        rw [hsem, hrunop, Oper.uponIn_value]
        have hvv := earlyV_vr (n := n) (upd_same ρ r.H.size ⟨w.heap.size, 0, ys.size, sz⟩) hnk
        rw [← hv] at hvv
        have hst' : StR P (upd ρ r.H.size ⟨w.heap.size, 0, ys.size, sz⟩) { s with ts := tsF R S' s.ts, H := hF (louds R) S' HE } (a.put o.dst (earlyM n w.heap.size)) (World.push w (.cells ys t)) := by
          have h0 : StR P (upd ρ r.H.size ⟨w.heap.size, 0, ys.size, sz⟩) { s with ts := tsF R S s.ts, H := hF (louds R) S HE } a (World.push w (.cells ys t)) := by
            refine ⟨hx'.rel, fun b p hb => ?_, vrA_mono' hsub hs.ts, defsR_mono hsub hs.ds⟩
            unfold upd at hb
            by_cases hbe : b = r.H.size
            · rw [hbe]; simp only; omega
            · simp [hbe] at hb; exact hs.clo b p hb
          have := h0.put r.o.dst hvv
          rw [hd] at this
          refine ⟨by rw [eH]; exact h0.rel, by rw [eH]; exact h0.clo, ?_, ?_⟩
          · have h5 := this.ts
            rw [← hput, hd]
            revert h5; cases o.dst <;> exact id
          · have h5 := this.ds
            revert h5; cases o.dst <;> exact id
        refine sched_ok he hcall hl hrun hp hearly hquiet hw hQ is S' hcl' hsch _ _ _ (rdR_mono hsub hrd) (by rw [eH]; exact hx') hst' (by rw [eH]; exact hsz) ?_
        intro q hq hqc hqw hqS
        rw [eH]
        obtain ⟨g1, g2⟩ := hpend q hq hqc hqw (hSmono _ hqS)
        refine ⟨?_, g2⟩
        have hne : q.H.size ≠ r.H.size := by
          rw [hR] at hq
          rcases List.mem_append.1 hq with h | h
          · obtain ⟨A1, A2, rfl⟩ := List.append_of_mem h
            have := hrun.slots A1 q (A2 ++ r :: B) (by simp [hR]) hqc hqw r (by simp) hc1 hwt
            omega
          · rcases List.mem_cons.1 h with rfl | h
            · exact absurd rfl (hSne _ hqS)
            · have := hrun.slots A r B hR hc1 hwt q h hqc hqw
              omega
        unfold upd
        simp [hne, g1]
    · -- the others
      have hstep : ∃ v1 H1, stepV e r.o (tsF R S s.ts) (hF (louds R) S HE) = some (r.v, hF (louds R) S' HE) ∧ v1 = r.v ∧ H1 = hF (louds R) S' HE := by
        refine ⟨_, _, ?_, rfl, rfl⟩
        rw [stepV_agree _ hag]
        cases hlr : r.i.loud with
        | true => exact hld hlr
        | false =>
          have hc0 := not_loud hc1 hlr
          have hsame := window_ok (S := S) (hw r hrm hc0) (louds_pairs hp) (fun q hq => hcl q (mem_louds.1 hq).1) (by rw [hri]; exact hnS) hanc
          rw [hnl hlr]
          unfold sameAt at hsame
          split at hsame
          · rename_i v H1 hst
            have := stepV_quiet (hquiet r hrm hc0) hst
            subst this
            rw [hst, veq_eq _ _ hsame]
          · cases hsame
      obtain ⟨_, _, hstep, _, _⟩ := hstep
      have hop1 := stepOp_of_V (rd := rd) (s := { s with ts := tsF R S s.ts, H := hF (louds R) S HE }) hstep
      have hst2 : ({ { s with ts := tsF R S s.ts, H := hF (louds R) S HE } with H := hF (louds R) S' HE }.put r.o.dst r.v : ASt) = { s with ts := tsF R S' s.ts, H := hF (louds R) S' HE } := by
        rw [← hput]
        unfold ASt.put putT
        cases r.o.dst <;> rfl
      rw [hst2] at hop1
      refine stepOp_ok he hcall h3 hop1 hrd hs ?_ (fun v hv => by cases hv)
      intro _ ρ' a' w' hext hst'
      refine sched_ok he hcall hl hrun hp hearly hquiet hw hQ is S' hcl' hsch ρ' a' w' (rdR_mono hext.sub hrd) (hx.trans hext) hst' (Nat.le_trans hsz hext.size) ?_
      intro q hq hqc hqw hqS
      obtain ⟨g1, g2⟩ := hpend q hq hqc hqw (hSmono _ hqS)
      have hlt : q.H.size < (hF (louds R) S HE).size := by
        rcases hrun.early q hq hqc with ⟨h, _⟩ | ⟨_, _, _, _, _, _, _, h, _⟩
        · rw [hqw] at h; cases h
        · omega
      refine ⟨?_, by rw [hext.unm _ hlt g1]; exact g2⟩
      cases hρ : ρ' q.H.size with
      | none => rfl
      | some p =>
        rcases hext.new _ _ hρ with h | ⟨h, _⟩
        · rw [g1] at h; cases h
        · simp only at h
          omega

theorem infos_mem {ops : Array Oper} {l : List IOper} {anc : Array Nat} {x : IInfo} : ∀ {is : List Nat} {seen : Bool}, x ∈ infos ops l anc seen is →
    ∃ o io, ops[x.idx]? = some o ∧ l[x.idx]? = some io ∧ x.deps = (o.after.toList.filter (Region.binds .any ·)).map (·.on) ∧ (x.cls = 0 → io.op.cls = 0) ∧ (x.cls = 1 → earlyOp o.op = true)
  | [], _, h => by cases h
  | i :: is, seen, h => by
    simp only [infos] at h
    split at h
    · rename_i io o h1 h2
      rcases List.mem_cons.1 h with rfl | h
      · refine ⟨o, io, h2, h1, rfl, ?_, ?_⟩
        · simp only
          split
          · intro _; assumption
          · split <;> intro hh <;> simp at hh
        · simp only
          split
          · intro hh; simp at hh
          · split
            · rename_i hh
              intro _
              simp at hh
              exact hh.2
            · intro hh; simp at hh
      · exact infos_mem h
    · exact infos_mem h

/-- **A region that draws its order is what the model does.** -/
theorem drawOk (hm : P.follows .mixedOrders = true) : DrawOk P drawFn := by
  intro e he hcall rd ops l s x s' hl h t ρ r0 a w hrd hs
  unfold drawFn at h
  split at h
  rotate_left
  · cases h
  rename_i hst
  split at h
  · cases h
  rename_i R hR
  simp only at h
  split at h
  rotate_left
  · cases h
  rename_i hall
  simp only [Option.some.injEq, Prod.mk.injEq] at h
  obtain ⟨rfl, rfl⟩ := h
  simp only [staticOk, Bool.and_eq_true] at hst
  obtain ⟨⟨hef, hpairs⟩, hdeps, hcov⟩ := hst
  have hinf : ∀ i, i ∈ cInfo ops l → ∃ o io, ops[i.idx]? = some o ∧ l[i.idx]? = some io ∧ i.deps = (o.after.toList.filter (Region.binds .any ·)).map (·.on) ∧ (i.cls = 0 → io.op.cls = 0) ∧ (i.cls = 1 → earlyOp o.op = true) :=
    fun i hi => infos_mem hi
  obtain ⟨hmap, hrun⟩ := drawRun_pre hR (fun i hi hc o ho => by
    obtain ⟨o', io, _, h2, _, h4, _⟩ := hinf i hi
    rw [ho] at h2
    rw [Option.some.inj h2]
    exact h4 hc) hef
  have split_map : ∀ A r B, R = A ++ r :: B → cInfo ops l = A.map (·.i) ++ r.i :: B.map (·.i) := fun A r B hh => by rw [← hmap, hh]; simp
  have hmem : ∀ q, q ∈ R → q.i ∈ cInfo ops l := fun q hq => by rw [← hmap]; exact List.mem_map.2 ⟨q, hq, rfl⟩
  have hp : PairOk R := by
    refine ⟨fun A r B hh q hq => ?_⟩
    obtain ⟨h1, h2⟩ := pairs_ok hpairs _ _ _ (split_map A r B hh) q.i (List.mem_map.2 ⟨q, hq, rfl⟩)
    refine ⟨fun hc => ?_, h2⟩
    obtain ⟨B1, B2, rfl⟩ := List.append_of_mem hq
    obtain ⟨_, hr⟩ := hrun.ats A r (B1 ++ q :: B2) hh
    obtain ⟨_, hq2⟩ := hrun.ats (A ++ r :: B1) q B2 (by simp [hh])
    simp only [pairOk, hr, hq2, hc, Bool.not_true, Bool.false_or] at h1
    exact h1
  have hw : ∀ q, q ∈ R → q.i.cls = 0 → window e q (hF (earlies R) (fun _ => true) s.H) (louds R) = true := by
    intro q hq hc
    have := List.all_eq_true.1 hall q hq
    simpa [hc] using this
  have hops : ∀ r, r ∈ R → ∃ o, ops[r.i.idx]? = some o ∧ r.i.deps = (o.after.toList.filter (Region.binds .any ·)).map (·.on) := by
    intro r hr
    obtain ⟨o, io, h1, _, h3, _, _⟩ := hinf r.i (hmem r hr)
    exact ⟨o, h1, h3⟩
  have hdeps' : ∀ A r B, R = A ++ r :: B → (∀ d, d ∈ r.i.deps → ∃ q, q ∈ A ∧ q.i.idx = d) ∧ ∀ x, r.i.anc.testBit x = true → ∃ d, d ∈ r.i.deps ∧ (x = d ∨ ∃ q, q ∈ A ∧ q.i.idx = d ∧ q.i.anc.testBit x = true) := by
    intro A r B hh
    obtain ⟨h1, h2⟩ := deps_ok hdeps _ _ _ (split_map A r B hh)
    refine ⟨fun d hd => ?_, fun x hx => ?_⟩
    · obtain ⟨q, hq, hqe⟩ := h1 d hd
      obtain ⟨q', hq', rfl⟩ := List.mem_map.1 (by simpa using hq)
      exact ⟨q', hq', hqe⟩
    · obtain ⟨d, hd, h | ⟨q, hq, e1, e2⟩⟩ := h2 x hx
      · exact ⟨d, hd, .inl h⟩
      · obtain ⟨q', hq', rfl⟩ := List.mem_map.1 (by simpa using hq)
        exact ⟨d, hd, .inr ⟨q', hq', e1, e2⟩⟩
  have hlen : l.length = ops.size := by simpa using mapM_length hl
  have hcov' : ∀ i, i < ops.size → ∃ r, r ∈ R ∧ r.i.idx = i := by
    intro i hi
    have := List.all_eq_true.1 hcov i (List.mem_range.2 (by omega))
    obtain ⟨q, hq, hqe⟩ := List.any_eq_true.1 this
    rw [← hmap] at hq
    obtain ⟨r, hr, rfl⟩ := List.mem_map.1 hq
    exact ⟨r, hr, by simpa using hqe⟩
  have hcl0 : Closed R (lst (Array.replicate ops.size false)) := fun r _ hS => by rw [replicate_lst] at hS; cases hS
  have hsch := go_ok hp hops hdeps' hcov' ops.size t (Array.replicate ops.size false) (by simp) (by
    unfold unl
    exact Nat.le_trans List.countP_le_length (by simp)) hcl0
  have e1 : tsF R (lst (Array.replicate ops.size false)) s.ts = s.ts := by
    have : ∀ (R : List DRec) (ts : Tmps), tsF R (fun _ => false) ts = ts := by
      intro R
      induction R with
      | nil => intro ts; rfl
      | cons r R ih => intro ts; simp only [tsF, List.foldl_cons, Bool.false_eq_true, if_false]; exact ih ts
    rw [tsF_congr (S' := fun _ => false) fun q _ => replicate_lst _ _]
    exact this R s.ts
  have e2 : ∀ H, hF (louds R) (lst (Array.replicate ops.size false)) H = H := fun H => hF_none fun q _ => replicate_lst _ _
  have hx0 := Ext.grow hs.rel hs.clo hrun.grow.1 hrun.grow.2
  have hmain := sched_ok he hcall (ops_get hl) (rd := rd) (r0 := r0) hrun hp (fun q hq hc o ho => by
      obtain ⟨o', io, h1, _, _, _, h5⟩ := hinf q.i (hmem q hq)
      rw [ho] at h1
      rw [Option.some.inj h1]
      exact h5 hc)
    (fun q hq hc => by
      obtain ⟨A, B, hAB⟩ := List.append_of_mem hq
      obtain ⟨_, g⟩ := hrun.ats A q B hAB
      obtain ⟨o', io, _, h2, _, h4, _⟩ := hinf q.i (hmem q hq)
      rw [g] at h2
      rw [Option.some.inj h2]
      exact h4 hc) hw (ρ0 := ρ) (w0 := w) (fun _ _ _ hh => hh) _ _ hcl0 hsch ρ a w hrd (by rw [e2]; exact hx0) (by
        rw [e1, e2]
        exact ⟨hx0.rel, hs.clo.ext hx0, hs.ts, hs.ds⟩) (by rw [e2]; exact Nat.le_refl _) (by
        intro q hq hqc hqw _
        rw [e2]
        refine ⟨?_, rfl⟩
        rcases hrun.early q hq hqc with ⟨h, _⟩ | ⟨_, _, _, _, _, _, h, _, _⟩
        · rw [hqw] at h; cases h
        · cases hρ : ρ q.H.size with
          | none => rfl
          | some p => have := hs.clo _ p hρ; omega)
  simp only [Region.schedule, hm, Bool.true_or, if_true, Region.linearise]
  exact hmain

end Go.Abs
