/-
  ABS, part G: each operation of the abstract machine is what the model does (two: values). (Own work.)
-/
import Derived.Test.YtohipgnacknkgabGreatHgF
import Derived.Laws.StructEq
import Derived.Laws.Tables
set_option linter.unusedSimpArgs false
set_option linter.unusedVariables false
namespace Go.Abs
open Go

variable {P : Program}
variable {ρ : Rho} {H H' : AHeap} {w : World} {r : AR} {o : Oper} {io : IOp} {ev : Operand → Value} {ev' : Operand → Option Value}

/-! ### Operands -/
theorem cOpd_eq {x y : Operand} (h : cOpd x = some y) : y = x := by
  cases x <;> simp [cOpd] at h
  · exact h.symm
  · exact h.2.symm
  · exact h.symm

theorem mapM_opd (he : evR ρ ev ev') : ∀ {l : List Operand} {l' : List Operand} {vs : List Value}, l.mapM cOpd = some l' → evs ev' l' = some vs → vrL ρ vs (l.map ev)
  | [], l', vs, h, hv => by
    simp at h
    subst h
    simp only [evs, Option.some.injEq] at hv
    subst hv
    simp [vrL]
  | x :: l, l', vs, h, hv => by
    simp only [List.mapM_cons, Option.bind_eq_bind, Option.bind_eq_some_iff, Option.pure_def, Option.some.injEq] at h
    obtain ⟨y, hy, ys, hys, rfl⟩ := h
    simp only [evs] at hv
    split at hv
    · rename_i v vs' h1 h2
      obtain rfl := Option.some.inj hv
      simp only [List.map_cons, vrL]
      exact ⟨_, _, rfl, he _ _ _ hy h1, mapM_opd he hys h2⟩
    · cases hv

theorem opds_vr (he : evR ρ ev ev') {l : Array Operand} {l' : List Operand} {vs : List Value} (h : cOpds l = some l') (hv : evs ev' l' = some vs) : vrL ρ vs (l.map ev).toList := by
  unfold cOpds at h
  simpa using mapM_opd he h hv

/-! ### Filling -/
theorem vrL_setRow {ρ : Rho} {cs vs ys : List Value} {ds : Array Value} {off : Nat} (h : vrL ρ cs ds.toList) (h2 : vrL ρ vs ys) (hl : off + vs.length ≤ cs.length) :
    vrL ρ (setRow cs off vs) (setMany ds off ys).toList := by
  have hds := vrL_length h
  have hys := vrL_length h2
  simp at hds
  refine vrL_of_get (by simp [hds]) fun i v hv => ?_
  rw [setRow_get _ _ _ _ hl] at hv
  rw [Array.getElem?_toList, setMany_get _ _ _ _ (by omega)]
  by_cases hc : off ≤ i ∧ i < off + vs.length
  · rw [if_pos hc] at hv
    rw [if_pos (by omega)]
    exact vrL_get h2 hv
  · rw [if_neg hc] at hv
    rw [if_neg (by omega)]
    obtain ⟨y, hy, hr⟩ := vrL_get h hv
    exact ⟨y, by simpa using hy, hr⟩

theorem foldl_setMany : ∀ (vs : List Value) (cs : Array Value) (off k : Nat),
    (vs.zipIdx k).foldl (fun cs (c, j) => cs.setIfInBounds (off + j) c) cs = setMany cs (off + k) vs
  | [], _, _, _ => rfl
  | v :: vs, cs, off, k => by
    simp only [List.zipIdx_cons, List.foldl_cons, setMany]
    rw [foldl_setMany vs _ off (k + 1)]
    rfl

theorem fill_ok (he : evR ρ ev ev') {f g : Nat → Option (Nat × Nat)} (hfg : ∀ i p, f i = some p → g i = some p) :
    ∀ {ps : List (Nat × Operand)} {ps' : List (Nat × Nat × Operand)} {qs : List (Nat × Nat × Value)} {cs cs' : List Value} {ds : Array Value},
    (ps.mapM fun (i, x) => do let (off, size) ← f i; let y ← cOpd x; pure (off, size, y)) = some ps' → evParts ev' ps' = some qs → fillL cs qs = some cs' → vrL ρ cs ds.toList →
    ∃ ds', Instr.fill g ds (ps.map fun (i, x) => (i, ev x)) = some ds' ∧ vrL ρ cs' ds'.toList
  | [], ps', qs, cs, cs', ds, h, hq, hc, hr => by
    simp at h
    subst h
    simp only [evParts, Option.some.injEq] at hq
    subst hq
    simp only [fillL, Option.some.injEq] at hc
    subst hc
    exact ⟨ds, rfl, hr⟩
  | (i, x) :: ps, ps', qs, cs, cs', ds, h, hq, hc, hr => by
    simp only [List.mapM_cons, Option.bind_eq_bind, Option.bind_eq_some_iff, Option.pure_def, Option.some.injEq] at h
    obtain ⟨⟨off, size, y⟩, ⟨⟨off', size'⟩, hf, y', hy, e⟩, ps'', hps, rfl⟩ := h
    simp only [Prod.mk.injEq] at e
    obtain ⟨rfl, rfl, rfl⟩ := e
    simp only [evParts] at hq
    split at hq
    · rename_i v qs' h1 h2
      obtain rfl := Option.some.inj hq
      simp only [fillL] at hc
      split at hc
      · rename_i hcond
        have hv := vr_cells (he _ _ _ hy h1)
        have hvl := vrL_length hv
        have hds := vrL_length hr
        simp at hds hvl
        have hr' := vrL_setRow hr hv (by omega) (off := off')
        have hps' : (ps.mapM fun (x : Nat × Operand) => do let (off, size) ← f x.1; let y ← cOpd x.2; pure (off, size, y)) = some ps'' := by simpa using hps
        obtain ⟨ds', g1, g2⟩ := fill_ok he hfg hps' h2 hc hr'
        refine ⟨ds', ?_, g2⟩
        simp only [List.map_cons, Instr.fill, hfg _ _ hf]
        have e1 : ¬ ((ev x).cells.size ≠ size') := by omega
        have e2 : ¬ (off' + (ev x).cells.size > ds.size) := by omega
        simp only [e1, e2, decide_false, Bool.or_self, Bool.false_eq_true, if_false]
        have e3 : ((ev x).cells.zipIdx.foldl (fun cs (x : Value × Nat) => cs.setIfInBounds (off' + x.2) x.1) ds) = setMany ds off' (ev x).cells.toList := by
          have := foldl_setMany (ev x).cells.toList ds off' 0
          simp only [Nat.add_zero] at this
          rw [← this, ← Array.foldl_toList]
          simp
        rw [e3]
        exact g1
      · cases hc
    · cases hq

theorem s_build (hr : Rel P ρ H w) (he : evR ρ ev ev') {t : TypeId} {ps : Array (Nat × Operand)} (ho : o.op = .build t ps) (hc : cOp P o = some io) (ha : aop io ev' H = some (r, H')) :
    Sound1 P ρ H w r H' ((execOp ev o).run P w) := by
  simp only [cOp, ho, Option.bind_eq_bind, Option.bind_eq_some_iff] at hc
  obtain ⟨z, hz, hc⟩ := hc
  have hzc : vrL ρ z.cells.toList z.cells.toList := by
    have := vr_cells (flat_vr ρ z (tzero_flat hz))
    cases z <;> simpa [vcells, Value.cells] using this
  split at hc
  · rename_i fields hu
    split at hc
    · rename_i hall
      simp only [Option.bind_eq_some_iff, Option.pure_def, Option.some.injEq] at hc
      obtain ⟨ps', hps, rfl⟩ := hc
      simp only [aop, Option.bind_eq_bind, Option.bind_eq_some_iff] at ha
      obtain ⟨qs, hq, cs, hcs, ha⟩ := ha
      obtain ⟨rfl, rfl⟩ := val_eq ha
      -- the places
      obtain ⟨places, hpl⟩ : ∃ places : List (Nat × Nat), fields.toList.mapM (fun (f : Field) => (P.info? f.type).map fun i => (f.offset, i.size)) = some places := by
        have : ∀ l : List Field, (∀ f ∈ l, (tsize P f.type).isSome) → ∃ places : List (Nat × Nat), l.mapM (fun (f : Field) => (P.info? f.type).map fun i => (f.offset, i.size)) = some places := by
          intro l
          induction l with
          | nil => intro _; exact ⟨[], by simp⟩
          | cons f l ih =>
            intro h
            obtain ⟨pl, hpl⟩ := ih fun g hg => h g (by simp [hg])
            obtain ⟨s, hs⟩ := Option.isSome_iff_exists.1 (h f (by simp))
            unfold tsize at hs
            obtain ⟨i, hi, rfl⟩ := Option.map_eq_some_iff.1 hs
            exact ⟨(f.offset, i.size) :: pl, by simp [List.mapM_cons, hi, hpl]⟩
        refine this _ fun f hf => ?_
        have := Array.all_eq_true'.1 hall f (by simpa using hf)
        simpa using this
      have hplaces : ∀ (i : Nat) (p : Nat × Nat), (do let f ← fields[i]?; pure (f.offset, ← tsize P f.type) : Option (Nat × Nat)) = some p → places.toArray[i]? = some p := by
        intro i p hp
        simp only [Option.bind_eq_bind, Option.bind_eq_some_iff, Option.pure_def, Option.some.injEq] at hp
        obtain ⟨f, hf, s, hs, rfl⟩ := hp
        have hgen : ∀ (l : List Field) (places : List (Nat × Nat)) (i : Nat), l.mapM (fun (f : Field) => (P.info? f.type).map fun i => (f.offset, i.size)) = some places → l[i]? = some f → places[i]? = some (f.offset, s) := by
          intro l
          induction l with
          | nil => intro _ _ _ h; simp at h
          | cons g l ih =>
            intro places i hm hl
            simp only [List.mapM_cons, Option.bind_eq_bind, Option.bind_eq_some_iff, Option.pure_def, Option.some.injEq] at hm
            obtain ⟨q, hq, qs, hqs, rfl⟩ := hm
            cases i with
            | zero =>
              simp at hl
              subst hl
              unfold tsize at hs
              obtain ⟨i, hi, rfl⟩ := Option.map_eq_some_iff.1 hs
              rw [hi] at hq
              simp at hq
              simp [hq]
            | succ i => simpa using ih qs i hqs (by simpa using hl)
        simpa using hgen _ _ _ hpl (by simpa using hf)
      obtain ⟨ds', g1, g2⟩ := fill_ok he hplaces (cs := z.cells.toList) (ds := z.cells) hps hq hcs hzc
      refine Sound1.pure hr (x := .agg ds') ?_ (by simp only [vr]; exact ⟨ds', rfl, vrA_iff.2 (by simpa using g2)⟩)
      have e1 := run_places (P := P) w _ _ hpl
      have e0 : (fields.mapM fun (f : Field) => Prod.mk f.offset <$> sizeOf f.type).run P w = .ok places.toArray w := by
        rw [Array.mapM_eq_mapM_toList]
        simp [e1]
      have e2 : (ps.map fun (x : Nat × Operand) => (x.1, ev x.2)).toList = ps.toList.map fun (x : Nat × Operand) => (x.1, ev x.2) := by simp
      have e3 : Instr.fill (fun x => places[x]?) z.cells (ps.toList.map fun (x : Nat × Operand) => (x.1, ev x.2)) = some ds' := by
        have e4 : (fun (i : Nat) => places.toArray[i]?) = fun (i : Nat) => places[i]? := by funext i; simp
        rw [← e4]
        exact g1
      simp [execOp, ho, Instr.build, run_zeroValue' hz, run_underlying' hu, e0, e3]
    · cases hc
  · rename_i len elem hu
    simp only [Option.bind_eq_some_iff, Option.pure_def, Option.some.injEq] at hc
    obtain ⟨s, hs, ps', hps, rfl⟩ := hc
    simp only [aop, Option.bind_eq_bind, Option.bind_eq_some_iff] at ha
    obtain ⟨qs, hq, cs, hcs, ha⟩ := ha
    obtain ⟨rfl, rfl⟩ := val_eq ha
    obtain ⟨ds', g1, g2⟩ := fill_ok he (g := fun i => some (i * s, s)) (fun _ _ h => h) (cs := z.cells.toList) (ds := z.cells) hps hq hcs hzc
    refine Sound1.pure hr (x := .agg ds') ?_ (by simp only [vr]; exact ⟨ds', rfl, vrA_iff.2 (by simpa using g2)⟩)
    simp [execOp, ho, Instr.build, run_zeroValue' hz, run_underlying' hu, run_sizeOf' hs, g1]
  · cases hc

theorem flatL_get : ∀ {l : List Value} {i : Nat} {v : Value}, flatL l = true → l[i]? = some v → flat v = true
  | _ :: _, 0, v, h, hv => by simp only [flatL, Bool.and_eq_true] at h; simp at hv; subst hv; exact h.1
  | _ :: _, i + 1, v, h, hv => by simp only [flatL, Bool.and_eq_true] at h; exact flatL_get h.2 (by simpa using hv)

theorem flat_cells {z : Value} (h : flat z = true) : flatL z.cells.toList = true := by
  cases z <;> simp only [Value.cells, flatL, Bool.and_true] <;> try exact h
  rename_i cs
  obtain ⟨l⟩ := cs
  simpa [flat, flatA] using h

/-- The cells of so many noughts. -/
theorem zeros_vr {z : Value} (hz : flat z = true) {s n : Nat} (hs : z.cells.size = s) (h0 : 0 < s ∨ n = 0) :
    vrL ρ ((List.range n).map fun i => z.cells.toList.getD (i % s) .nilFunc) ((Array.range n).map (z.cells[· % z.cells.size]!)).toList := by
  refine vrL_of_get (by simp) fun i v hv => ?_
  have hi : i < n := by
    have := (List.getElem?_eq_some_iff.1 hv).1
    simpa using this
  have hpos : 0 < s := by omega
  have hm : i % s < z.cells.size := by rw [hs]; exact Nat.mod_lt _ hpos
  refine ⟨z.cells[i % s], ?_, ?_⟩
  · simp [hi, hs]
    rw [getElem!_pos _ _ (by rw [hs]; exact Nat.mod_lt _ hpos)]
  · simp [hi] at hv
    rw [Array.getElem?_eq_getElem hm] at hv
    simp at hv
    subst hv
    refine flat_vr ρ _ (flatL_get (flat_cells hz) (i := i % s) ?_)
    simp [hm]

theorem s_buildSlice (hr : Rel P ρ H w) (he : evR ρ ev ev') {t : TypeId} {len : Nat} {ps : Array (Nat × Operand)} (ho : o.op = .buildSlice t len ps) (hc : cOp P o = some io) (hf : Fresh ρ H H') (ha : aop io ev' H = some (r, H')) :
    Sound1 P ρ H w r H' ((execOp ev o).run P w) := by
  simp only [cOp, ho] at hc
  split at hc
  · rename_i elem hu
    simp only [Option.bind_eq_bind, Option.bind_eq_some_iff] at hc
    obtain ⟨s, hs, hc⟩ := hc
    split at hc
    · cases hc
    rename_i hbig
    simp only [Option.bind_eq_some_iff] at hc
    obtain ⟨z, hz, hc⟩ := hc
    split at hc
    · cases hc
    rename_i hzs
    simp only [Option.bind_eq_some_iff, Option.pure_def, Option.some.injEq] at hc
    obtain ⟨ps', hps, rfl⟩ := hc
    simp only [Bool.or_eq_true, decide_eq_true_eq, not_or, Decidable.not_not, Nat.not_le] at hzs
    simp only [aop, Option.bind_eq_bind, Option.bind_eq_some_iff] at ha
    obtain ⟨qs, hq, cs, hcs, ha⟩ := ha
    obtain ⟨rfl, rfl⟩ := val_eq ha
    have h0 : ρ H.size = none := hf _ (Nat.le_refl _) (by simp)
    have hzero : vrL ρ ((List.range (len * s)).map fun i => z.cells.toList.getD (i % s) .nilFunc) ((Array.range (len * s)).map (z.cells[· % z.cells.size]!)).toList :=
      zeros_vr (tzero_flat hz) hzs.1 (by
        rcases Nat.eq_zero_or_pos s with h | h
        · right; simp [h]
        · left; exact h)
    obtain ⟨ds', g1, g2⟩ := fill_ok he (g := fun i => some (i * s, s)) (fun _ _ h => h) hps hq hcs hzero
    have hext := Rel.newCells hr h0 (ys := ds') g2 elem s #[]
    refine ⟨_, _, by simpa using hext, .slice (some ⟨w.heap.size, 0, none⟩) len len, ?_, ?_⟩
    · have g1' : Instr.fill (fun i => some (i * s, s)) ((Array.range (len * s)).map (z.cells[· % z.cells.size]!)) (ps.map fun (x : Nat × Operand) => (x.1, ev x.2)).toList = some ds' := by
        simpa using g1
      by_cases h0' : len * s = 0
      · have g2' : Instr.fill (fun i => some (i * s, s)) #[] (ps.map fun (x : Nat × Operand) => (x.1, ev x.2)).toList = some ds' := by
          rw [h0'] at g1'
          have e0 : (Array.range 0).map (z.cells[· % z.cells.size]!) = #[] := Array.eq_empty_of_size_eq_zero (by simp)
          rw [e0] at g1'
          exact g1'
        have e1 : (Array.range 0).map (fun _ => (default : Value)) = #[] := Array.eq_empty_of_size_eq_zero (by simp)
        have g3' : Instr.fill (fun i => some (i * s, s)) #[] (ps.toList.map fun (x : Nat × Operand) => (x.1, ev x.2)) = some ds' := by simpa using g2'
        simp [execOp, ho, Instr.buildSlice, run_underlying' hu, run_sizeOf' hs, h0', e1, g3', newRow, World.push]
      · have g3' : Instr.fill (fun i => some (i * s, s)) ((Array.range (len * s)).map (z.cells[· % z.cells.size]!)) (ps.toList.map fun (x : Nat × Operand) => (x.1, ev x.2)) = some ds' := by simpa using g1'
        simp only [Nat.not_lt] at hbig
        simp [execOp, ho, Instr.buildSlice, run_underlying' hu, run_sizeOf' hs, h0', run_zeroValue' hz, g3', newRow, World.push]
        omega
    · unfold vr slr
      exact ⟨rfl, _, upd_same _ _ _, .inl ⟨by have := hzs.2; omega, Nat.le_refl _, rfl⟩⟩
  · cases hc

end Go.Abs
