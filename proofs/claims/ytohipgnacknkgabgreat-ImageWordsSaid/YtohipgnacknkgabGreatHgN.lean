/-
  ABS, part N: each operation of the abstract machine is what the model does (nine: the iterators; all of them). (Own work.)
-/
import Derived.Test.YtohipgnacknkgabGreatHgM
set_option linter.unusedSimpArgs false
set_option linter.unusedVariables false
namespace Go.Abs
open Go

variable {P : Program}
variable {ρ : Rho} {H H' : AHeap} {w : World} {r : AR} {o : Oper} {io : IOp} {ev : Operand → Value} {ev' : Operand → Option Value}

theorem s_range (hr : Rel P ρ H w) (he : evR ρ ev ev') {t : TypeId} {x : Operand} (ho : o.op = .range t x) (hc : cOp P o = some io) (hf : Fresh ρ H H') (ha : aop io ev' H = some (r, H')) :
    Sound1 P ρ H w r H' ((execOp ev o).run P w) := by
  simp only [cOp, ho] at hc
  split at hc
  · rename_i hu
    simp only [Option.bind_eq_bind, Option.bind_eq_some_iff, Option.pure_def, Option.some.injEq] at hc
    obtain ⟨x1, hx1, rfl⟩ := hc
    simp only [aop] at ha
    split at ha
    · rename_i s hv
      obtain ⟨rfl, rfl⟩ := val_eq ha
      have h1 := vr_str (he _ _ _ hx1 hv)
      have h0 : ρ H.size = none := hf _ (Nat.le_refl _) (by simp)
      refine ⟨_, World.push w (.stringIter s 0), Ext.alloc hr h0 (.stringIter s 0) (.siter s 0) 1 0 ⟨rfl, rfl, push_get w _⟩, .pointer (some ⟨w.heap.size, 0, none⟩), ?_, by simp only [vr]; exact ⟨_, rfl, rfl, _, upd_same _ _ _, rfl⟩⟩
      simp only [execOp, ho, Instr.range, Sem.run_bind, run_underlying' hu, Result.andThen_ok, h1, Sem.run_pure, run_newObj, World.push]
    · cases ha
  · rename_i k e hu
    simp only [Option.bind_eq_bind, Option.bind_eq_some_iff, Option.pure_def, Option.some.injEq] at hc
    obtain ⟨x1, hx1, rfl⟩ := hc
    simp only [aop] at ha
    split at ha
    · rename_i hv
      obtain ⟨rfl, rfl⟩ := val_eq ha
      have h1 := he _ _ _ hx1 hv
      simp only [vr] at h1
      have h0 : ρ H.size = none := hf _ (Nat.le_refl _) (by simp)
      refine ⟨_, World.push w (.mapIter none 0 #[] 0), Ext.alloc hr h0 (.mapIter none 0 #[] 0) (.miter none 0 [] 0) 1 0 ⟨rfl, rfl, push_get w _⟩, .pointer (some ⟨w.heap.size, 0, none⟩), ?_, by simp only [vr]; exact ⟨_, rfl, rfl, _, upd_same _ _ _, rfl⟩⟩
      simp only [execOp, ho, Instr.range, Sem.run_bind, run_underlying' hu, Result.andThen_ok, h1, Sem.run_pure, run_newObj, World.push]
    · rename_i b hv
      split at ha
      · rename_i es clock hg
        obtain ⟨rfl, rfl⟩ := val_eq ha
        have h1 := he _ _ _ hx1 hv
        simp only [vr] at h1
        obtain ⟨p, hp, h1⟩ := h1
        obtain ⟨_, _, ces, hh, hmr⟩ := hr.obj _ p _ hp hg
        have hget : (getObj p.B).run P w = .ok (.map ces clock) w := by simp [getObj, Sem.run, hh]
        have h0 : ρ H.size = none := hf _ (Nat.le_refl _) (by simp)
        have hbl := AHeap.get_lt hg
        refine ⟨_, World.push w (.mapIter (some p.B) clock #[] clock), Ext.alloc hr h0 (.mapIter (some p.B) clock #[] clock) (.miter (some b) clock [] clock) 1 0 ⟨rfl, rfl, p, upd_le h0 _ _ hp, push_get w _⟩, .pointer (some ⟨w.heap.size, 0, none⟩), ?_, by simp only [vr]; exact ⟨_, rfl, rfl, _, upd_same _ _ _, rfl⟩⟩
        simp only [execOp, ho, Instr.range, Sem.run_bind, run_underlying' hu, Result.andThen_ok, h1, hget, Sem.run_pure, run_newObj, World.push]
      · cases ha
    · cases ha
  · cases hc

theorem mapR_filter (f : Nat → Bool) : ∀ {es : List (Value × Value × Nat)} {l : List MapEntry}, mapR ρ es l → mapR ρ (es.filter fun e => f e.2.2) (l.filter fun e => f e.born)
  | [], _, h => by simp only [mapR] at h; subst h; simp [mapR]
  | (k, v, n) :: es, _, h => by
    simp only [mapR] at h
    obtain ⟨e, l', rfl, h1, h2, h3, h4⟩ := h
    have ih := mapR_filter f h4
    simp only [List.filter_cons, h3]
    by_cases hh : f n = true
    · simp only [hh, if_true]
      exact ⟨e, _, rfl, h1, h2, h3, ih⟩
    · simp only [hh, Bool.false_eq_true, if_false]
      exact ih

theorem mapR_all (f : Nat → Bool) : ∀ {es : List (Value × Value × Nat)} {l : List MapEntry}, mapR ρ es l → (l.all fun e => f e.born) = es.all fun e => f e.2.2
  | [], _, h => by simp only [mapR] at h; subst h; rfl
  | (k, v, n) :: es, _, h => by
    simp only [mapR] at h
    obtain ⟨e, l', rfl, h1, h2, h3, h4⟩ := h
    simp only [List.all_cons, h3, mapR_all f h4]

theorem mapR_find (f : Nat → Bool) : ∀ {es : List (Value × Value × Nat)} {l : List MapEntry} {x : Value × Value × Nat}, mapR ρ es l → es.find? (fun e => f e.2.2) = some x → ∃ e, l.find? (fun e => f e.born) = some e ∧ vr ρ x.1 e.key ∧ vr ρ x.2.1 e.val
  | [], _, _, h, hx => by simp at hx
  | (k, v, n) :: es, _, x, h, hx => by
    simp only [mapR] at h
    obtain ⟨e, l', rfl, h1, h2, h3, h4⟩ := h
    simp only [List.find?_cons, h3] at hx ⊢
    by_cases hh : f n = true
    · simp only [hh, Option.some.injEq] at hx ⊢
      subst hx
      exact ⟨e, rfl, h1, h2⟩
    · simp only [hh] at hx ⊢
      exact mapR_find f h4 hx

theorem s_next (hr : Rel P ρ H w) (he : evR ρ ev ev') {x : Operand} {isS : Bool} (ho : o.op = .next x isS) (hc : cOp P o = some io) (ha : aop io ev' H = some (r, H')) :
    Sound1 P ρ H w r H' ((execOp ev o).run P w) := by
  simp only [cOp, ho, Option.bind_eq_bind, Option.bind_eq_some_iff, Option.pure_def, Option.some.injEq] at hc
  obtain ⟨x1, hx1, rfl⟩ := hc
  simp only [aop] at ha
  split at ha
  rotate_left
  · cases ha
  rename_i b hv
  have h1 := he _ _ _ hx1 hv
  simp only [vr] at h1
  obtain ⟨a, e1, _, p, hp, rfl⟩ := h1
  have hover : ∀ {ρ : Rho}, vr ρ (.tuple #[.bool false]) (.tuple #[.bool false]) := by intro ρ; simp only [vr]; exact ⟨_, rfl, by simp only [vrA, vrL]; exact ⟨_, _, rfl, by simp only [vr], rfl⟩⟩
  split at ha
  · rename_i s pos hg
    obtain ⟨h2, h3, hh⟩ := hr.obj _ p _ hp hg
    have hget : (getObj p.B).run P w = .ok (.stringIter s pos) w := by simp [getObj, Sem.run, hh]
    split at ha
    · rename_i hlt
      obtain ⟨rfl, rfl⟩ := val_eq ha
      have hset : (setObj p.B (.stringIter s (pos + (Utf8.decode s pos).2))).run P w = .ok () (World.putObj w p.B (.stringIter s (pos + (Utf8.decode s pos).2))) := by simp [setObj, Sem.run, hh, World.putObj]
      refine ⟨ρ, _, Ext.putO hr hp hg rfl rfl h2 h3 ⟨_, hh, rfl⟩ ⟨h2, h3, putObj_get (hr.lt b p hp)⟩, .tuple #[.bool true, goInt pos, .int .i32 (Utf8.decode s pos).1], ?_, ?_⟩
      · simp only [execOp, ho, Instr.next, e1, h2, Nat.zero_add, Nat.add_zero, Sem.run_bind, hget, Result.andThen_ok, if_pos hlt, hset, Sem.run_pure]
      · simp only [vr]
        exact ⟨_, rfl, by simp only [vrA, vrL, goInt]; exact ⟨_, _, rfl, by simp only [vr], _, _, rfl, by simp only [vr], _, _, rfl, by simp only [vr], rfl⟩⟩
    · rename_i hlt
      obtain ⟨rfl, rfl⟩ := val_eq ha
      refine ⟨ρ, w, Ext.kill hr hp, .tuple #[.bool false], ?_, hover⟩
      simp only [execOp, ho, Instr.next, e1, h2, Nat.zero_add, Nat.add_zero, Sem.run_bind, hget, Result.andThen_ok, if_neg hlt, Sem.run_pure]
  · rename_i since seen st hg
    obtain ⟨rfl, rfl⟩ := val_eq ha
    obtain ⟨h2, h3, hh⟩ := hr.obj _ p _ hp hg
    have hget : (getObj p.B).run P w = .ok (.mapIter none since seen.toArray st) w := by simp [getObj, Sem.run, hh]
    refine ⟨ρ, w, Ext.kill hr hp, .tuple #[.bool false], ?_, hover⟩
    simp only [execOp, ho, Instr.next, e1, h2, Nat.zero_add, Nat.add_zero, Sem.run_bind, hget, Result.andThen_ok, Sem.run_pure]
  · rename_i m since seen last hg
    obtain ⟨h2, h3, q, hq, hh⟩ := hr.obj _ p _ hp hg
    have hget : (getObj p.B).run P w = .ok (.mapIter (some q.B) since seen.toArray last) w := by simp [getObj, Sem.run, hh]
    split at ha
    rotate_left
    · cases ha
    rename_i es clock hgm
    obtain ⟨_, _, ces, hhm, hmr⟩ := hr.obj _ q _ hq hgm
    have hgetm : (getObj q.B).run P w = .ok (.map ces clock) w := by simp [getObj, Sem.run, hhm]
    split at ha
    · cases ha
    rename_i hgone
    have hgone' : (!seen.toArray.isEmpty && !ces.isEmpty && ces.all (·.born ≥ last)) = false := by
      have e2 := mapR_all (fun n => decide (n ≥ last)) hmr
      have e3 : ces.isEmpty = es.isEmpty := by
        have h := mapR_length hmr
        simp only [Array.length_toList] at h
        cases es with
        | nil => simp only [List.length_nil] at h; simp [Array.isEmpty, h]
        | cons a l => simp only [List.length_cons] at h; simp [Array.isEmpty, h]
      have e4 : seen.toArray.isEmpty = seen.isEmpty := by simp
      have e5 : ces.all (fun e => decide (e.born ≥ last)) = ces.toList.all (fun e => decide (e.born ≥ last)) := by simp
      rw [e3, e4, e5, e2]
      simpa using hgone
    have hleft := mapR_filter (fun n => !seen.contains n) hmr
    have hold := mapR_filter (fun n => decide (n < since)) hleft
    have hnew := mapR_filter (fun n => decide (n ≥ since)) hleft
    have hA : ∀ f : MapEntry → Bool, (ces.filter f).toList = ces.toList.filter f := fun f => by simp
    have eL : ces.filter (fun e => !seen.toArray.contains e.born) = (ces.toList.filter fun e => !seen.contains e.born).toArray := by
      apply Array.toList_inj.1
      simp
    split at ha
    · rename_i ho1 hn1
      obtain ⟨rfl, rfl⟩ := val_eq ha
      rw [ho1] at hold
      rw [hn1] at hnew
      simp only [mapR] at hold hnew
      refine ⟨ρ, w, Ext.kill hr hp, .tuple #[.bool false], ?_, hover⟩
      have k1 : Array.filter (fun x => decide (x.born < since)) (ces.toList.filter fun e => !seen.contains e.born).toArray = #[] := by
        apply Array.toList_inj.1
        simpa using hold
      have k2 : Array.filter (fun x => decide (x.born ≥ since)) (ces.toList.filter fun e => !seen.contains e.born).toArray = #[] := by
        apply Array.toList_inj.1
        simpa using hnew
      simp only [execOp, ho, Instr.next, e1, h2, Nat.zero_add, Nat.add_zero, Sem.run_bind, hget, hgetm, Result.andThen_ok, hgone', Bool.false_eq_true, if_false, Sem.run_pure, eL, k1, k2]
      simp [run_choose, Question.forced]
    · rename_i e ho1 hn1
      obtain ⟨rfl, rfl⟩ := val_eq ha
      rw [ho1] at hold
      rw [hn1] at hnew
      simp only [mapR] at hold hnew
      obtain ⟨e', l', hl, g1, g2, g3, rfl⟩ := hold
      have k1 : Array.filter (fun x => decide (x.born < since)) (ces.toList.filter fun e => !seen.contains e.born).toArray = #[e'] := by
        apply Array.toList_inj.1
        simpa using hl
      have k2 : Array.filter (fun x => decide (x.born ≥ since)) (ces.toList.filter fun e => !seen.contains e.born).toArray = #[] := by
        apply Array.toList_inj.1
        simpa using hnew
      have hset : (setObj p.B (.mapIter (some q.B) since (seen.toArray.push e'.born) clock)).run P w = .ok () (World.putObj w p.B (.mapIter (some q.B) since (seen.toArray.push e'.born) clock)) := by simp [setObj, Sem.run, hh, World.putObj]
      refine ⟨ρ, _, Ext.putO hr hp hg rfl rfl h2 h3 ⟨_, hh, rfl⟩ (x := .mapIter (some q.B) since (seen.toArray.push e'.born) clock) ⟨h2, h3, q, hq, ?_⟩, .tuple #[.bool true, e'.key, e'.val], ?_, ?_⟩
      · rw [putObj_get (hr.lt b p hp), g3]
        simp
      · simp only [execOp, ho, Instr.next, e1, h2, Nat.zero_add, Nat.add_zero, Sem.run_bind, hget, hgetm, Result.andThen_ok, hgone', Bool.false_eq_true, if_false, Sem.run_pure, eL, k1, k2]
        rw [List.push_toArray] at hset
        simp [run_choose, Question.forced, hset]
      · simp only [vr]
        exact ⟨_, rfl, by simp only [vrA, vrL]; exact ⟨_, _, rfl, by simp only [vr], _, _, rfl, g1, _, _, rfl, g2, rfl⟩⟩
    · cases ha
  · cases ha

theorem s_entry (hr : Rel P ρ H w) (he : evR ρ ev ev') {x : Operand} (ho : o.op = .entry x) (hc : cOp P o = some io) (ha : aop io ev' H = some (r, H')) :
    Sound1 P ρ H w r H' ((execOp ev o).run P w) := by
  simp only [cOp, ho, Option.bind_eq_bind, Option.bind_eq_some_iff, Option.pure_def, Option.some.injEq] at hc
  obtain ⟨x1, hx1, rfl⟩ := hc
  simp only [aop] at ha
  split at ha
  rotate_left
  · cases ha
  rename_i b hv
  have h1 := he _ _ _ hx1 hv
  simp only [vr] at h1
  obtain ⟨a, e1, _, p, hp, rfl⟩ := h1
  split at ha
  rotate_left
  · cases ha
  rename_i m since seen stepped hg
  obtain ⟨h2, h3, q, hq, hh⟩ := hr.obj _ p _ hp hg
  have hget : (getObj p.B).run P w = .ok (.mapIter (some q.B) since seen.toArray stepped) w := by simp [getObj, Sem.run, hh]
  split at ha
  rotate_left
  · cases ha
  rename_i stamp es clock hlast hgm
  obtain ⟨_, _, ces, hhm, hmr⟩ := hr.obj _ q _ hq hgm
  have hgetm : (getObj q.B).run P w = .ok (.map ces clock) w := by simp [getObj, Sem.run, hhm]
  split at ha
  rotate_left
  · cases ha
  rename_i hck
  split at ha
  rotate_left
  · cases ha
  rename_i e hf
  obtain ⟨rfl, rfl⟩ := val_eq ha
  obtain ⟨e', hf', g1, g2⟩ := mapR_find (fun n => n == stamp) hmr hf
  have hb : seen.toArray.back? = some stamp := by simpa [Array.back?_eq_getElem?, List.getLast?_eq_getElem?] using hlast
  have hfA : ces.find? (fun e => e.born == stamp) = some e' := by rw [← hf']; simp
  refine Sound1.pure hr (x := .tuple #[e'.key, e'.val]) ?_ (by simp only [vr]; exact ⟨_, rfl, by simp only [vrA, vrL]; exact ⟨_, _, rfl, g1, _, _, rfl, g2, rfl⟩⟩)
  simp only [execOp, ho, Instr.entry, e1, h2, Nat.zero_add, Nat.add_zero, Sem.run_bind, hget, hgetm, hb, Result.andThen_ok, hck, bne_self_eq_false, Bool.false_eq_true, if_false, hfA, Sem.run_pure]

/-- **Each operation of the abstract machine is what the model does.** -/
theorem op_sound (hr : Rel P ρ H w) (he : evR ρ ev ev') (hev : ∀ v, ev (.const v) = v) (hc : cOp P o = some io) (hf : Fresh ρ H H') (ha : aop io ev' H = some (r, H')) :
    Sound1 P ρ H w r H' ((execOp ev o).run P w) := by
  match ho : o.op with
  | .move x => exact s_mov hr he (x := x) (by simpa only [cOp, ho] using hc) ha (by simp only [execOp, ho])
  | .assign x => exact s_mov hr he (x := x) (by simpa only [cOp, ho] using hc) ha (by simp only [execOp, ho])
  | .pick c a b => exact s_pick hr he ho hc ha
  | .alloc t => exact s_alloc hr ho hc hf ha
  | .box t x => exact s_box hr he ho hc hf ha
  | .build t ps => exact s_build hr he ho hc ha
  | .buildSlice t len ps => exact s_buildSlice hr he ho hc hf ha
  | .load t a => exact s_load hr he ho hc ha
  | .store t a x => exact s_store hr he ho hc ha
  | .nilCheck x => exact s_nilCheck hr he ho hc ha
  | .binOp op t x y _ => exact s_bin hr he ho hc ha
  | .unOp op t x => exact s_un hr he ho hc ha
  | .convert src dst x => exact s_conv hr he ho hc hf ha
  | .makeInterface t x => exact s_mkIface hr he ho hc ha
  | .makeFunc f a b => exact s_mkFunc hr he ho hc ha
  | .makeMap t x => exact s_mkMap hr ho hc hf ha hev
  | .makeSlice t l c => exact s_mkSlice hr he ho hc hf ha
  | .slice t x lo hi mx => exact s_slice hr he ho hc ha
  | .fieldAddr s x f => exact s_fieldAddr hr he ho hc ha
  | .field t x f => exact s_field hr he ho hc ha
  | .indexAddr t x i => exact s_indexAddr hr he ho hc ha
  | .index t x i => exact s_index hr he ho hc ha
  | .lookup t m k ok => exact s_lookup hr he ho hc ha
  | .mapUpdate t m k v => exact s_mapSet hr he (.inl ho) hc ha
  | .insert t m k v => exact s_mapSet hr he (.inr ho) hc ha
  | .range t x => exact s_range hr he ho hc hf ha
  | .next x b => exact s_next hr he ho hc ha
  | .entry x => exact s_entry hr he ho hc ha
  | .typeAssert x t u ok => exact s_typeAssert hr he ho hc ha
  | .extract x i => exact s_extract hr he ho hc ha
  | .defer c => exact s_defer hr he ho hc ha
  | .panic x => exact s_panic hr he ho hc ha
  | .call c =>
    match hb : c.callee with
    | .value f => exact s_call hr he ho hb hc ha
    | .invoke _ _ => simp only [cOp, ho, hb, reduceCtorEq] at hc
    | .builtin .append => exact s_append hr he ho hb hc hf ha
    | .builtin .copy => exact s_copy hr he ho hb hc ha
    | .builtin .len => exact s_len hr he ho hb hc ha
    | .builtin .cap => exact s_cap hr he ho hb hc ha
    | .builtin .min => exact s_minmax hr he ho (.inl hb) hc ha
    | .builtin .max => exact s_minmax hr he ho (.inr hb) hc ha
    | .builtin .recover => exact s_recover hr ho hb hc ha
    | .builtin .delete => exact s_mapDel hr he ho hb hc ha
    | .builtin .clear | .builtin .close | .builtin .complex | .builtin .imag | .builtin .panic | .builtin .print | .builtin .println | .builtin .real | .builtin .make | .builtin .new
    | .builtin .unsafeAdd | .builtin .unsafeSlice | .builtin .unsafeSliceData | .builtin .unsafeString | .builtin .unsafeStringData | .builtin .unsafeSizeof | .builtin .unsafeAlignof | .builtin .unsafeOffsetof => simp only [cOp, ho, hb, cBuiltin, reduceCtorEq] at hc
  | .ready _ | .waits _ | .sliceToArrayPointer _ _ | .makeChan _ _ | .mapEntry _ _ _ | .entryStore _ _ _ _ | .go _ | .send _ _ | .recv _ _ _ | .select _ _ => simp only [cOp, ho, reduceCtorEq] at hc

end Go.Abs
