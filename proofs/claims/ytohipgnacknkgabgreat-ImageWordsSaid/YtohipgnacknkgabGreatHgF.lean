/-
  ABS, part F: each operation of the abstract machine is what the model does (one). (Own work.)
-/
import Derived.Test.YtohipgnacknkgabGreatHgE
import Derived.Laws.BytesString
set_option linter.unusedSimpArgs false
set_option linter.unusedVariables false
namespace Go.Abs
open Go

variable {P : Program}

def outR (P : Program) (ρ : Rho) (w : World) : AR → Result Next → Prop
  | .val v, r => ∃ x, r = .ok (.value x) w ∧ vr ρ v x
  | .skip, r => r = .ok .skip w
  | .panic v, r => ∃ x, r = .halt (.panic x) w ∧ vr ρ v x
  | .enter f args, r => ∃ xs : Array Value, r = (callFunc f xs).run P w ∧ vrL ρ args xs.toList
  | .round l args, r => ∃ p, ∃ xs : Array Value, ρ l = some p ∧ r = (Instr.yield p.B xs).run P w ∧ vrL ρ args xs.toList
  | .defer d, r => ∃ e, r = .ok (.defer e) w ∧ defR ρ d e
  | .recover, r => r = .ok .recover w

/-- Operands stand for operands. -/
def evR (ρ : Rho) (ev : Operand → Value) (ev' : Operand → Option Value) : Prop := ∀ x y v, cOpd x = some y → ev' y = some v → vr ρ v (ev x)

def Fresh (ρ : Rho) (H H' : AHeap) : Prop := ∀ b, H.size ≤ b → b < H'.size → ρ b = none

/-- What is to be shown of an operation. -/
def Sound1 (P : Program) (ρ : Rho) (H : AHeap) (w : World) (r : AR) (H' : AHeap) (res : Result Next) : Prop :=
  ∃ ρ' w', Ext P ρ H w ρ' H' w' ∧ outR P ρ' w' r res

variable {ρ : Rho} {H H' : AHeap} {w : World} {r : AR} {o : Oper} {io : IOp} {ev : Operand → Value} {ev' : Operand → Option Value}

theorem Sound1.pure (h : Rel P ρ H w) {v x : Value} {res : Result Next} (hres : res = .ok (.value x) w) (hv : vr ρ v x) : Sound1 P ρ H w (.val v) H res :=
  ⟨ρ, w, Ext.refl h, x, hres, hv⟩

theorem val_eq {v : Value} {H H' : AHeap} {r : AR} (h : val v H = some (r, H')) : r = .val v ∧ H' = H := by
  simp only [val, Option.some.injEq, Prod.mk.injEq] at h
  exact ⟨h.1.symm, h.2.symm⟩

theorem s_mov (hr : Rel P ρ H w) (he : evR ρ ev ev') {x : Operand} (hc : (do pure (IOp.mov (← cOpd x)) : Option IOp) = some io) (ha : aop io ev' H = some (r, H'))
    (hx : execOp ev o = pure (.value (ev x))) : Sound1 P ρ H w r H' ((execOp ev o).run P w) := by
  simp only [Option.bind_eq_bind, Option.bind_eq_some_iff, Option.pure_def, Option.some.injEq] at hc
  obtain ⟨y, hy, rfl⟩ := hc
  simp only [aop, Option.bind_eq_bind, Option.bind_eq_some_iff] at ha
  obtain ⟨v, hv, ha⟩ := ha
  obtain ⟨rfl, rfl⟩ := val_eq ha
  exact Sound1.pure hr (by simp [hx]) (he _ _ _ hy hv)

theorem s_pick (hr : Rel P ρ H w) (he : evR ρ ev ev') {c a b : Operand} (ho : o.op = .pick c a b) (hc : cOp P o = some io) (ha : aop io ev' H = some (r, H')) :
    Sound1 P ρ H w r H' ((execOp ev o).run P w) := by
  simp only [cOp, ho, Option.bind_eq_bind, Option.bind_eq_some_iff, Option.pure_def, Option.some.injEq] at hc
  obtain ⟨c', hc', a', ha', b', hb', rfl⟩ := hc
  simp only [aop] at ha
  split at ha
  · rename_i hv
    simp only [Option.bind_eq_bind, Option.bind_eq_some_iff] at ha
    obtain ⟨v, hv', ha⟩ := ha
    obtain ⟨rfl, rfl⟩ := val_eq ha
    have h1 := he _ _ _ hc' hv
    simp only [vr] at h1
    exact Sound1.pure hr (x := ev a) (by simp [execOp, ho, h1, asBool]) (he _ _ _ ha' hv')
  · rename_i hv
    simp only [Option.bind_eq_bind, Option.bind_eq_some_iff] at ha
    obtain ⟨v, hv', ha⟩ := ha
    obtain ⟨rfl, rfl⟩ := val_eq ha
    have h1 := he _ _ _ hc' hv
    simp only [vr] at h1
    exact Sound1.pure hr (x := ev b) (by simp [execOp, ho, h1, asBool]) (he _ _ _ hb' hv')
  · cases ha

/-- A new variable. -/
theorem Rel.newVar (hr : Rel P ρ H w) (hf : ρ H.size = none) {cs : List Value} {x : Value} (hv : vrL ρ cs x.cells.toList) (t : TypeId) (sz : Nat) :
    ∃ ρ' w', (newVar t x).run P w = .ok ⟨w.heap.size, 0, none⟩ w' ∧ Ext P ρ H w ρ' (H.push (.cells cs false sz)) w' ∧ addrr ρ' ⟨H.size, 0, none⟩ ⟨w.heap.size, 0, none⟩ := by
  refine ⟨_, World.push w (.cells x.cells t), ?_, by simpa using Rel.newCells hr hf hv t sz #[], rfl, _, upd_same _ _ _, rfl⟩
  simp only [Go.newVar, newRow, Sem.run_bind, run_newObj, Result.andThen_ok, Sem.run_pure]
  rfl

theorem s_alloc (hr : Rel P ρ H w) {t : TypeId} (ho : o.op = .alloc t) (hc : cOp P o = some io) (hf : Fresh ρ H H') (ha : aop io ev' H = some (r, H')) :
    Sound1 P ρ H w r H' ((execOp ev o).run P w) := by
  simp only [cOp, ho, Option.bind_eq_bind, Option.bind_eq_some_iff, Option.pure_def, Option.some.injEq] at hc
  obtain ⟨z, hz, rfl⟩ := hc
  simp only [aop] at ha
  obtain ⟨rfl, rfl⟩ := val_eq ha
  have h0 : ρ H.size = none := hf _ (Nat.le_refl _) (by simp)
  have hflat := tzero_flat hz
  have hcells : vrL ρ z.cells.toList z.cells.toList := by
    have := vr_cells (flat_vr ρ z hflat)
    cases z <;> simpa [vcells, Value.cells] using this
  obtain ⟨ρ', w', h1, h2, h3⟩ := hr.newVar h0 hcells t 0
  refine ⟨ρ', w', h2, _, ?_, by simp only [vr]; exact ⟨_, rfl, h3⟩⟩
  simp [execOp, ho, Instr.alloc, run_zeroValue' hz, h1]

theorem s_box (hr : Rel P ρ H w) (he : evR ρ ev ev') {t : TypeId} {x : Operand} (ho : o.op = .box t x) (hc : cOp P o = some io) (hf : Fresh ρ H H') (ha : aop io ev' H = some (r, H')) :
    Sound1 P ρ H w r H' ((execOp ev o).run P w) := by
  simp only [cOp, ho, Option.bind_eq_bind, Option.bind_eq_some_iff, Option.pure_def, Option.some.injEq] at hc
  obtain ⟨y, hy, rfl⟩ := hc
  simp only [aop, Option.bind_eq_bind, Option.bind_eq_some_iff] at ha
  obtain ⟨v, hv, ha⟩ := ha
  obtain ⟨rfl, rfl⟩ := val_eq ha
  have h0 : ρ H.size = none := hf _ (Nat.le_refl _) (by simp)
  obtain ⟨ρ', w', h1, h2, h3⟩ := hr.newVar h0 (vr_cells (he _ _ _ hy hv)) t 0
  refine ⟨ρ', w', h2, _, ?_, by simp only [vr]; exact ⟨_, rfl, h3⟩⟩
  simp [execOp, ho, Instr.box, h1]

theorem s_load (hr : Rel P ρ H w) (he : evR ρ ev ev') {t : TypeId} {x : Operand} (ho : o.op = .load t x) (hc : cOp P o = some io) (ha : aop io ev' H = some (r, H')) :
    Sound1 P ρ H w r H' ((execOp ev o).run P w) := by
  simp only [cOp, ho] at hc
  split at hc
  · rename_i hg
    simp only [Option.bind_eq_bind, Option.bind_eq_some_iff, Option.pure_def, Option.some.injEq] at hc
    obtain ⟨n, hn, y, hy, rfl⟩ := hc
    simp only [aop] at ha
    split at ha
    · rename_i a hv
      simp only [Option.bind_eq_bind, Option.bind_eq_some_iff] at ha
      obtain ⟨vs, hvs, ha⟩ := ha
      obtain ⟨rfl, rfl⟩ := val_eq ha
      have h1 := he _ _ _ hy hv
      simp only [vr] at h1
      obtain ⟨b, e, hab⟩ := h1
      obtain ⟨ys, hl, hys⟩ := hr.run_row hab hvs
      refine Sound1.pure hr (x := .agg ys) ?_ (by simp only [vr]; exact ⟨ys, rfl, vrA_iff.2 (by simpa using hys)⟩)
      simp [execOp, ho, Instr.loadAt, Instr.sureAddr, e, loadVar, run_isAgg' hg, run_sizeOf' hn, hl]
    · cases ha
  · rename_i hg
    simp only [Option.bind_eq_bind, Option.bind_eq_some_iff, Option.pure_def, Option.some.injEq] at hc
    obtain ⟨y, hy, rfl⟩ := hc
    simp only [aop] at ha
    split at ha
    · rename_i a hv
      simp only [Option.bind_eq_bind, Option.bind_eq_some_iff] at ha
      obtain ⟨v, hvs, ha⟩ := ha
      obtain ⟨rfl, rfl⟩ := val_eq ha
      have h1 := he _ _ _ hy hv
      simp only [vr] at h1
      obtain ⟨b, e, hab⟩ := h1
      obtain ⟨z, hz, hzr⟩ := hr.cell hab hvs
      refine Sound1.pure hr (x := z) ?_ hzr
      simp [execOp, ho, Instr.loadAt, Instr.sureAddr, e, loadVar, run_isAgg' hg, hz]
    · cases ha
  · cases hc

theorem s_store (hr : Rel P ρ H w) (he : evR ρ ev ev') {t : TypeId} {x y : Operand} (ho : o.op = .store t x y) (hc : cOp P o = some io) (ha : aop io ev' H = some (r, H')) :
    Sound1 P ρ H w r H' ((execOp ev o).run P w) := by
  simp only [cOp, ho, Option.bind_eq_bind, Option.bind_eq_some_iff, Option.pure_def, Option.some.injEq] at hc
  obtain ⟨n, hn, x', hx', y', hy', rfl⟩ := hc
  simp only [aop] at ha
  split at ha
  · rename_i a v hv hv2
    split at ha
    · rename_i hlen
      simp only [Option.bind_eq_bind, Option.bind_eq_some_iff, Option.some.injEq, Prod.mk.injEq] at ha
      obtain ⟨H1, hs, rfl, rfl⟩ := ha
      have h1 := he _ _ _ hx' hv
      simp only [vr] at h1
      obtain ⟨b, e, hab⟩ := h1
      have h2 := vr_cells (he _ _ _ hy' hv2)
      obtain ⟨w', hw', hext⟩ := hr.store hab h2 hs
      refine ⟨ρ, w', hext, ?_⟩
      have hsz : (ev y).cells.size = n := by have := vrL_length h2; simp at this; omega
      simp only [outR]
      simp [execOp, ho, Instr.storeAt, Instr.sureAddr, e, storeVar, run_sizeOf' hn, hsz, hw']
    · cases ha
  · cases ha

theorem s_nilCheck (hr : Rel P ρ H w) (he : evR ρ ev ev') {x : Operand} (ho : o.op = .nilCheck x) (hc : cOp P o = some io) (ha : aop io ev' H = some (r, H')) :
    Sound1 P ρ H w r H' ((execOp ev o).run P w) := by
  simp only [cOp, ho, Option.bind_eq_bind, Option.bind_eq_some_iff, Option.pure_def, Option.some.injEq] at hc
  obtain ⟨x', hx', rfl⟩ := hc
  simp only [aop] at ha
  split at ha
  · rename_i a hv
    obtain ⟨rfl, rfl⟩ := val_eq ha
    have h1 := he _ _ _ hx' hv
    refine Sound1.pure hr (x := ev x) ?_ h1
    simp only [vr] at h1
    obtain ⟨b, e, hab⟩ := h1
    simp [execOp, ho, e]
  · rename_i f a b hv
    obtain ⟨rfl, rfl⟩ := val_eq ha
    have h1 := he _ _ _ hx' hv
    refine Sound1.pure hr (x := ev x) ?_ h1
    simp only [vr] at h1
    obtain ⟨g, xs, ys, e, hg, _⟩ := h1
    simp only [fnr] at hg
    subst hg
    simp [execOp, ho, e]
  · rename_i f a b hv
    obtain ⟨rfl, rfl⟩ := val_eq ha
    have h1 := he _ _ _ hx' hv
    refine Sound1.pure hr (x := ev x) ?_ h1
    simp only [vr] at h1
    obtain ⟨g, xs, ys, e, hg, _⟩ := h1
    simp only [fnr] at hg
    obtain ⟨p, _, rfl⟩ := hg
    simp [execOp, ho, e]
  · rename_i t v hv
    obtain ⟨rfl, rfl⟩ := val_eq ha
    have h1 := he _ _ _ hx' hv
    refine Sound1.pure hr (x := ev x) ?_ h1
    simp only [vr] at h1
    obtain ⟨y, e, _⟩ := h1
    simp [execOp, ho, e]
  · cases ha

theorem s_conv (hr : Rel P ρ H w) (he : evR ρ ev ev') {s d : TypeId} {x : Operand} (ho : o.op = .convert s d x) (hc : cOp P o = some io) (hf : Fresh ρ H H') (ha : aop io ev' H = some (r, H')) :
    Sound1 P ρ H w r H' ((execOp ev o).run P w) := by
  simp only [cOp, ho, Option.bind_eq_bind, Option.bind_eq_some_iff] at hc
  obtain ⟨x', hx', hc⟩ := hc
  split at hc
  · rename_i k1 k2 hs hd
    simp only [Option.pure_def, Option.some.injEq] at hc
    subst hc
    simp only [aop] at ha
    split at ha
    · rename_i k n hv
      obtain ⟨rfl, rfl⟩ := val_eq ha
      have h1 := he _ _ _ hx' hv
      simp only [vr] at h1
      refine Sound1.pure hr (x := .int k2 (k2.wrap n)) ?_ (by simp only [vr])
      simp [execOp, ho, convert, run_underlying' hs, run_underlying' hd, h1, Conv.intToInt]
    · cases ha
  · rename_i hs hd
    simp only [Option.pure_def, Option.some.injEq] at hc
    subst hc
    simp only [aop] at ha
    split at ha
    · rename_i b hv
      obtain ⟨rfl, rfl⟩ := val_eq ha
      have h1 := he _ _ _ hx' hv
      simp only [vr] at h1
      refine Sound1.pure hr (x := .string b) ?_ (by simp only [vr])
      simp [execOp, ho, convert, run_underlying' hs, run_underlying' hd, h1]
    · cases ha
  · rename_i e hs hd
    split at hc
    · rename_i hu
      simp only [Option.pure_def, Option.some.injEq] at hc
      subst hc
      simp only [aop] at ha
      split at ha
      · rename_i b hv
        split at ha
        · rename_i hmem
          obtain ⟨rfl, rfl⟩ := val_eq ha
          have h1 := he _ _ _ hx' hv
          simp only [vr] at h1
          have h0 : ρ H.size = none := hf _ (Nat.le_refl _) (by simp)
          -- the capacity is drawn
          let cap := b.size + w.tape w.drawn (.appendCap b.size 0 e) % (2 ^ 63 - b.size)
          let elems : Array Value := b.data.map fun b => .int .u8 b.toNat
          let extra : Array Value := Array.replicate (cap - b.size) (.int .u8 0)
          have hel : elems.size = b.size := by simp [elems]
          have hrel : Rel P ρ H (World.draw w) := hr.congr rfl
          have hys : vrL ρ (byteVals b) elems.toList := by
            refine vrL_of_get (by simp [byteVals, elems]) fun i v hv => ?_
            have e1 : byteVals b = elems.toList := by simp [byteVals, elems]
            rw [e1] at hv
            refine ⟨v, hv, ?_⟩
            have hmem : v ∈ elems.toList := List.mem_of_getElem? hv
            simp only [elems, Array.toList_map, List.mem_map] at hmem
            obtain ⟨c, _, rfl⟩ := hmem
            simp only [vr]
          have hext := Rel.newCells hrel h0 hys e 1 extra
          -- the mark behind the row
          have hsz : (elems ++ extra).size = cap := by simp [hel, extra, cap]
          refine ⟨upd ρ H.size ⟨w.heap.size, 0, elems.size + extra.size, 1⟩, (World.push (World.draw w) (.cells (elems ++ extra) e)).freeze ⟨w.heap.size, cap, none⟩ 1, ?_, .slice (some ⟨w.heap.size, 0, none⟩) b.size cap, ?_, ?_⟩
          · have hw : ∀ B, B ≠ w.heap.size → ((World.push (World.draw w) (.cells (elems ++ extra) e)).freeze ⟨w.heap.size, cap, none⟩ 1).heap[B]? = (World.push (World.draw w) (.cells (elems ++ extra) e)).heap[B]? := by
              intro B hB
              simp only [World.freeze, Nat.one_ne_zero, if_false, Array.getElem?_modify]
              rw [if_neg (fun e => hB e.symm)]
            have hself : ((World.push (World.draw w) (.cells (elems ++ extra) e)).freeze ⟨w.heap.size, cap, none⟩ 1).heap[w.heap.size]? = some (.cells (elems ++ extra) e (cap, cap + 1)) := by
              have := push_get (World.draw w) (.cells (elems ++ extra) e)
              simp only [World.freeze, Nat.one_ne_zero, if_false, Array.getElem?_modify]
              have e2 : (World.draw w).heap.size = w.heap.size := rfl
              rw [e2] at this
              rw [this]
              simp
            refine { sub := hext.sub, size := hext.size, new := hext.new, rel := ⟨?_, hext.rel.sep, ?_⟩, wsize := ?_, keepC := ?_, keepO := ?_, own := hext.own, unm := hext.unm, os := hext.os, out := hext.out, tape := hext.tape }
            · intro y q oz hq hz
              by_cases eB : q.B = w.heap.size
              · have hrelz := hext.rel.obj y q oz hq hz
                rcases hext.new y q hq with h | ⟨h1', h2'⟩
                · have := hr.lt y q h; omega
                · have ey : y = H.size := by simp at h2'; omega
                  subst ey
                  rw [upd_same] at hq
                  obtain rfl := Option.some.inj hq
                  rw [AHeap.get_push, if_pos rfl] at hz
                  obtain rfl := Option.some.inj hz
                  obtain ⟨c, t, fr, g1, g2, g3, g4, g5, g6⟩ := hrelz
                  have e3 := push_get (World.draw w) (.cells (elems ++ extra) e)
                  have e2 : (World.draw w).heap.size = w.heap.size := rfl
                  rw [e2] at e3
                  rw [eB, e3] at g1
                  simp only [Option.some.injEq, Obj.cells.injEq] at g1
                  obtain ⟨rfl, rfl, rfl⟩ := g1
                  refine ⟨_, _, _, by rw [eB]; exact hself, g2, g3, g4, g5, fun _ i hi => ?_⟩
                  simp only [Nat.zero_add]
                  simp only [hel] at hi
                  have : extra.size = cap - b.size := by simp [extra]
                  omega
              · exact objR_mono (Rho.le.refl _) (hext.rel.obj y q oz hq hz) (hw _ eB)
            · intro y q hq
              have := hext.rel.lt y q hq
              simpa [World.freeze] using this
            · have := hext.wsize
              have e2 : (World.draw w).heap.size = w.heap.size := rfl
              rw [e2] at this
              simpa [World.freeze] using this
            · intro B c t fr hB
              have hlt := (Array.getElem?_eq_some_iff.1 hB).1
              rw [hw B (by omega)]
              exact hext.keepC B c t fr hB
            · intro B z hB hno hn
              have hlt := (Array.getElem?_eq_some_iff.1 hB).1
              rw [hw B (by omega)]
              exact hext.keepO B z hB hno hn
          · simp only [execOp, ho, convert, Sem.run_bind, run_underlying' hs, run_underlying' hd, run_underlying' hu, h1, Result.andThen_ok, Conv.stringToBytes, run_choose, Question.forced, Bool.false_eq_true, if_false, newRow, run_newObj, Sem.run_pure, markStringish, run_shape]
            have hshape : World.shape? { w with heap := w.heap.push (.cells (elems ++ extra) e), drawn := w.drawn + 1 } w.heap.size = some (e, cap) := by
              simp [World.shape?, hsz]
            have ecap : (Question.appendCap b.size 0 e).cut (w.tape w.drawn (.appendCap b.size 0 e)) = cap := rfl
            rw [ecap]
            simp only [elems, extra] at hshape ⊢
            simp only [hshape, run_freeze, Result.andThen_ok, World.push, World.draw]
          · unfold vr slr
            refine ⟨rfl, _, upd_same _ _ _, .inr (.inl ⟨rfl, cap, ?_, by simp, by simp [cap], rfl⟩)⟩
            simp only [Nat.zero_add, Nat.mul_one, hel]
            simp [extra, cap]
        · cases ha
      · cases ha
    · cases hc
  · rename_i e hs hd
    split at hc
    · rename_i hu
      simp only [Option.pure_def, Option.some.injEq] at hc
      subst hc
      simp only [aop] at ha
      split at ha
      · rename_i l c hv
        obtain ⟨rfl, rfl⟩ := val_eq ha
        have h1 := he _ _ _ hx' hv
        simp only [vr] at h1
        refine Sound1.pure hr (x := .string .empty) ?_ (by simp only [vr])
        simp [execOp, ho, convert, run_underlying' hs, run_underlying' hd, run_underlying' hu, h1, Conv.bytesToString]
      · rename_i a n c hv
        have h1 := he _ _ _ hx' hv
        simp only [vr] at h1
        split at ha
        · rename_i hn
          subst hn
          obtain ⟨rfl, rfl⟩ := val_eq ha
          refine Sound1.pure hr (x := .string .empty) ?_ (by simp only [vr])
          obtain ⟨x2, c2, e2⟩ : ∃ x2 c2, ev x = .slice (some x2) 0 c2 := by
            obtain ⟨_, p, _, h⟩ := h1
            rcases h with ⟨_, _, h⟩ | ⟨_, _, _, _, _, h⟩ | ⟨_, _, _, h⟩ <;> exact ⟨_, _, h⟩
          have := run_bytesToString (P := P) w x2 0 c2 [] (by simp [loadCells, loadCellsFrom])
          simp only [execOp, ho, Sem.run_bind, e2]
          rw [run_convert_bytes_string w s d e _ _ _ hs hu hd, this]
          simp
        · rename_i hn
          split at ha
          · rename_i cs hcs
            simp only [Option.bind_eq_bind, Option.bind_eq_some_iff] at ha
            obtain ⟨bs, hbs, ha⟩ := ha
            obtain ⟨rfl, rfl⟩ := val_eq ha
            obtain ⟨x2, c2, e2, ha2⟩ : ∃ x2 c2, ev x = .slice (some x2) n c2 ∧ addrr ρ a x2 := by
              obtain ⟨g1, p, g2, h⟩ := h1
              rcases h with ⟨_, _, h⟩ | ⟨_, _, _, _, _, h⟩ | ⟨_, h0, _⟩
              · exact ⟨_, _, h, g1, p, g2, rfl⟩
              · exact ⟨_, _, h, g1, p, g2, rfl⟩
              · exact absurd h0 hn
            obtain ⟨ys, hl, hys⟩ := hr.run_row ha2 hcs
            obtain ⟨ns, e3, e4⟩ : ∃ ns : List Int, cs = ns.map (Value.int .u8) ∧ bs = ns.map fun n => UInt8.ofNat n.toNat := by
              clear hcs hys hl ha
              induction cs generalizing bs with
              | nil => simp only [bytesOf, Option.some.injEq] at hbs; exact ⟨[], rfl, by simp [← hbs]⟩
              | cons y cs ih =>
                cases y with
                | int k m =>
                  cases k <;> simp only [bytesOf, Option.map_eq_some_iff, reduceCtorEq] at hbs
                  obtain ⟨b2, hb2, rfl⟩ := hbs
                  obtain ⟨ns, rfl, rfl⟩ := ih b2 hb2
                  exact ⟨m :: ns, rfl, rfl⟩
                | _ => simp [bytesOf] at hbs
            have e5 : ys = (ns.map (Value.int .u8)).toArray := by
              subst e3
              clear hl hcs hbs e4
              apply Array.ext'
              generalize ys.toList = zs at hys
              simp only
              induction ns generalizing zs with
              | nil => simpa only [vrL, List.map_nil] using hys
              | cons m ns ih =>
                simp only [List.map_cons, vrL] at hys
                obtain ⟨z, zs', rfl, hz, hzs⟩ := hys
                simp only [vr] at hz
                rw [hz, ih _ hzs]
                rfl
            rw [e5] at hl
            have hrun := run_bytesToString (P := P) w x2 n c2 ns hl
            have hfold : ∀ (l : List Int) (s : ByteArray), l.foldl (fun r n => r.push (UInt8.ofNat n.toNat)) s = ⟨s.data ++ (l.map fun n => UInt8.ofNat n.toNat).toArray⟩ := by
              intro l
              induction l with
              | nil => intro s; simp
              | cons m l ih =>
                intro s
                simp only [List.foldl_cons, ih, List.map_cons]
                congr 1
                apply Array.ext'
                simp [ByteArray.push]
            refine Sound1.pure hr (x := .string ⟨bs.toArray⟩) ?_ (by simp only [vr])
            simp only [execOp, ho, Sem.run_bind, e2]
            rw [run_convert_bytes_string w s d e _ _ _ hs hu hd, hrun, hfold, e4]
            simp
          · cases ha
      · cases ha
    · cases hc
  · cases hc

end Go.Abs
