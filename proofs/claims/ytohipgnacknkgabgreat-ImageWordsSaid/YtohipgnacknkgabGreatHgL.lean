/-
  ABS, part L: each operation of the abstract machine is what the model does (seven: append, copy, the rest). (Own work.)
-/
import Derived.Test.YtohipgnacknkgabGreatHgK
set_option linter.unusedSimpArgs false
set_option linter.unusedVariables false
namespace Go.Abs
open Go

variable {P : Program}
variable {ρ : Rho} {H H' : AHeap} {w : World} {r : AR} {o : Oper} {io : IOp} {ev : Operand → Value} {ev' : Operand → Option Value}

/-- A row, from a cell on, becomes a row of its own; what was ahead of it is given up. -/
theorem Ext.move (h : Rel P ρ H w) (hf : ρ H.size = none) {b off : Nat} {p : Pl} {cs : List Value} {sz : Nat} (hp : ρ b = some p) (hb : H.get b = some (.cells cs false sz)) (ho : off ≤ cs.length) :
    Ext P ρ H w (upd ρ H.size ⟨p.B, p.base + off, p.C - off, p.sz⟩) ((H.set b .dead).push (.cells (cs.drop off) false sz)) w := by
  have hsub := upd_le (p := ⟨p.B, p.base + off, p.C - off, p.sz⟩) hf
  have hbl := AHeap.get_lt hb
  have hget : ∀ x, x ≠ H.size → x ≠ b → ((H.set b .dead).push (.cells (cs.drop off) false sz)).get x = H.get x := by
    intro x h1 h2
    rw [AHeap.get_push, AHeap.size_set, if_neg h1, AHeap.get_set, if_neg (fun e => h2 e.1.symm)]
  have hgetn : ((H.set b .dead).push (.cells (cs.drop off) false sz)).get H.size = some (.cells (cs.drop off) false sz) := by
    rw [AHeap.get_push, AHeap.size_set, if_pos rfl]
  have hgetb : ((H.set b .dead).push (.cells (cs.drop off) false sz)).get b = some .dead := by
    rw [AHeap.get_push, AHeap.size_set, if_neg (by omega), AHeap.get_set, if_pos ⟨rfl, hbl⟩]
  have hcase : ∀ x q, upd ρ H.size ⟨p.B, p.base + off, p.C - off, p.sz⟩ x = some q → (x = H.size ∧ q = ⟨p.B, p.base + off, p.C - off, p.sz⟩) ∨ (x ≠ H.size ∧ ρ x = some q) := by
    intro x q hq
    unfold upd at hq
    by_cases e : x = H.size
    · simp [e] at hq; exact .inl ⟨e, hq.symm⟩
    · simp [e] at hq; exact .inr ⟨e, hq⟩
  obtain ⟨c, t, fr, g1, g2, g3, g4, g5, g6⟩ := h.obj b p _ hp hb
  refine { sub := hsub, size := by simp, new := ?_, rel := ⟨?_, ?_, ?_⟩, wsize := Nat.le_refl _, keepC := fun _ c _ _ hc => ⟨c, hc, rfl, fun _ _ => rfl⟩, keepO := fun _ _ h _ _ => h, own := ?_, unm := ?_, os := rfl, out := rfl, tape := rfl }
  · intro x q hq
    rcases hcase x q hq with ⟨e, _⟩ | ⟨_, hq⟩
    · exact .inr ⟨by omega, by simp; omega⟩
    · exact .inl hq
  · intro x q ox hq hx
    rcases hcase x q hq with ⟨e, e2⟩ | ⟨e, hq⟩
    · subst e; subst e2
      rw [hgetn] at hx
      obtain rfl := Option.some.inj hx
      refine ⟨c, t, fr, g1, by simp only; omega, by simp; omega, g4, fun i v' hv => ?_, fun _ i hi => ?_⟩
      · rw [List.getElem?_drop] at hv
        obtain ⟨v, hv1, hv2⟩ := g5 _ _ hv
        exact ⟨v, by rw [← hv1, Nat.add_assoc], vr_mono hsub _ _ hv2⟩
      · have := g6 rfl (off + i) (by simp only at hi; omega)
        simp only [Nat.add_assoc]
        exact this
    · by_cases e' : x = b
      · subst e'
        rw [hgetb] at hx
        obtain rfl := Option.some.inj hx
        trivial
      · rw [hget x e e'] at hx
        exact objR_mono hsub (h.obj x q ox hq hx) rfl
  · intro x x' q q' ox ox' hne hq hq' hx hx' hw hl
    have nb : ∀ y oy, ((H.set b .dead).push (.cells (cs.drop off) false sz)).get y = some oy → oy.live = true → y ≠ b := by
      intro y oy hy hyl e
      subst e
      rw [hgetb] at hy
      obtain rfl := Option.some.inj hy
      simp [AObj.live] at hyl
    have live_of_wr : ∀ z : AObj, z.wr = true → z.live = true := by intro z hz; cases z <;> simp_all [AObj.wr, AObj.live]
    have n1 := nb x ox hx (live_of_wr _ hw)
    have n2 := nb x' ox' hx' hl
    rcases hcase x q hq with ⟨e, e2⟩ | ⟨e, hq⟩ <;> rcases hcase x' q' hq' with ⟨e', e2'⟩ | ⟨e', hq'⟩
    · omega
    · subst e2
      rw [hget x' e' n2] at hx'
      have hap := h.sep b x' p q' _ _ (fun e => n2 e.symm) hp hq' hb hx' rfl hl
      unfold apart at hap ⊢
      simp only
      omega
    · subst e2'
      rw [hget x e n1] at hx
      have hap := h.sep x b q p _ _ n1 hq hp hx hb hw rfl
      unfold apart at hap ⊢
      simp only
      omega
    · rw [hget x e n1] at hx
      rw [hget x' e' n2] at hx'
      exact h.sep x x' q q' ox ox' hne hq hq' hx hx' hw hl
  · intro x q hq
    rcases hcase x q hq with ⟨_, e2⟩ | ⟨_, hq⟩
    · subst e2; exact h.lt b p hp
    · exact h.lt x q hq
  · rintro B i hB ⟨x, q, ox, hq, hx, hw, e1, h1, h2⟩
    rcases hcase x q hq with ⟨_, e2⟩ | ⟨e', hq⟩
    · subst e2
      simp only at e1 h1 h2
      exact ⟨b, p, _, hp, hb, rfl, e1, by omega, by omega⟩
    · by_cases e'' : x = b
      · subst e''
        rw [hgetb] at hx
        obtain rfl := Option.some.inj hx
        simp [AObj.wr] at hw
      · rw [hget x e' e''] at hx
        exact ⟨x, q, ox, hq, hx, hw, e1, h1, h2⟩
  · intro x hx hn
    exact hget x (by omega) (fun e => by subst e; rw [hp] at hn; cases hn)

theorem set_set (H : AHeap) (b : Nat) (o o' : AObj) : (H.set b o).set b o' = H.set b o' := by
  exact AHeap.set_set H b o o'

/-- The model's append, once its arguments are known. -/
def appendTail (elem : TypeId) (size : Nat) (zeros : Bool) (base : Option Addr) (sLen sCap n : Nat) (s x : Value) (appended : Sem (Array Value)) : Sem Value := do
  let need := sLen + n
  if need ≤ sCap then
    let new ← appended
    if let some a := base then storeCells (a.add (sLen * size)) new.toList
    pure (.slice base need sCap)
  else
    if (need : Int) > IntKind.i64.max ∧ (zeros ∨ (← typeInfo elem).bytes = 0) then runtimePanic (.error "growslice: len out of range")
    if Builtin.nextslicecap need sCap * (← typeInfo elem).bytes > 2 ^ 48 then (if zeros then runtimePanic (.error "growslice: len out of range") else do
      if !(← Builtin.mayShare size sLen n base x) then mark .noRoom
      unsupported (.resourceLimit "append: a slice or a string whose bytes no memory bears"))
    let newCap ← choose (.appendCap need sCap elem)
    askRoom (newCap * (← typeInfo elem).bytes)
    let old ← Builtin.firstCells size sLen s
    let new ← appended
    let rest := Builtin.zeroCells (← zeroValue elem).cells (newCap - need)
    pure (.slice (some (← newRow elem (old ++ new ++ rest))) need newCap)

theorem grow_run {elem : TypeId} {inf : TypeInfo} {z : Value} {size n l c : Nat} {base : Option Addr} {s x : Value} {zeros : Bool} {appended : Sem (Array Value)} {ys old : Array Value}
    (hi : P.info? elem = some inf) (hz : inf.zero = some z) (hb : 0 < inf.bytes) (hneed : c < l + n) (hmem : (l + n) * inf.bytes ≤ mem)
    (happ : ∀ w2, w2.heap = w.heap → appended.run P w2 = .ok ys w2) (hold : ∀ w2, w2.heap = w.heap → (Builtin.firstCells size l s).run P w2 = .ok old w2) :
    ∃ cap, l + n ≤ cap ∧ (appendTail elem size zeros base l c n s x appended).run P w =
      .ok (.slice (some ⟨w.heap.size, 0, none⟩) (l + n) cap) (World.push (World.draw w) (.cells (old ++ ys ++ Builtin.zeroCells z.cells (cap - (l + n))) elem)) := by
  refine ⟨(Question.appendCap (l + n) c elem).cut (w.tape w.drawn (.appendCap (l + n) c elem)), by simp [Question.cut], ?_⟩
  have hmem' := hmem
  simp only [mem] at hmem'
  have hle : l + n ≤ (l + n) * inf.bytes := Nat.le_mul_of_pos_right _ hb
  have h1 : ¬ (l + n ≤ c) := by omega
  have h2 : ¬ (((l + n : Nat) : Int) > IntKind.i64.max) := by
    simp [IntKind.max, IntKind.signed, IntKind.bits]
    omega
  have h3 : ¬ (Builtin.nextslicecap (l + n) c * inf.bytes > 2 ^ 48) := by
    have := growslice_fits (need := l + n) (old := c) (bytes := inf.bytes) hneed hmem'
    omega
  have hty : ∀ w2, (typeInfo elem).run P w2 = .ok inf w2 := by
    intro w2
    simp [typeInfo, hi]
  have hzv : ∀ w2, (zeroValue elem).run P w2 = .ok z w2 := by
    intro w2
    simp [zeroValue, typeInfo, hi, hz]
  have h2' : ¬ (((l + n : Nat) : Int) > IntKind.i64.max ∧ (zeros = true ∨ inf.bytes = 0)) := fun h => h2 h.1
  have ha := happ (World.draw w) rfl
  have hol := hold (World.draw w) rfl
  unfold World.draw at ha hol
  simp only [appendTail, Sem.run_ite, if_neg h1, Sem.run_bind, hty, Result.andThen_ok, if_neg h2', if_neg h3, Sem.run_pure, run_choose, Question.forced, Bool.false_eq_true, if_false, run_askRoom, hol, ha, hzv, newRow, run_newObj, World.push, World.draw]

/-- The row that append makes. -/
theorem grow_ok {H0 : AHeap} (hrel : Rel P ρ H0 w) (h0 : ρ H0.size = none) {elem : TypeId} {cs : List Value} {ds : Array Value} {z : Value} {size m cap : Nat} (hcs : vrL ρ cs ds.toList) (hl : cs.length = m * size) (hz : z.cells.size = size) (hs0 : 0 < size) (hcap : m ≤ cap) :
    ∃ ρ', Ext P ρ H0 w ρ' (H0.push (.cells cs false size)) (World.push w (.cells (ds ++ Builtin.zeroCells z.cells (cap - m)) elem)) ∧
      vr ρ' (.slice (some ⟨H0.size, 0, none⟩) m openCap) (.slice (some ⟨w.heap.size, 0, none⟩) m cap) := by
  have hext := Rel.newCells hrel h0 hcs elem size (Builtin.zeroCells z.cells (cap - m))
  refine ⟨_, hext, ?_⟩
  unfold vr slr
  refine ⟨rfl, _, upd_same _ _ _, .inr (.inl ⟨rfl, cap, ?_, hs0, hcap, rfl⟩)⟩
  have hds := vrL_length hcs
  simp at hds
  simp only [Builtin.zeroCells, Array.size_map, Array.size_range, hz, hds, hl, ← Nat.add_mul, Nat.zero_add]
  congr 1
  omega

theorem firstCells_run (hr : Rel P ρ H w) {a : Addr} {l c size : Nat} {s' : Value} {old : List Value} (hs : vr ρ (.slice (some a) l c) s') (hrow : H.row a (l * size) = some old) (h0 : c ≠ openCap ∨ 0 < l) :
    ∃ ds : Array Value, (∀ w2, w2.heap = w.heap → (Builtin.firstCells size l s').run P w2 = .ok ds w2) ∧ vrL ρ old ds.toList := by
  simp only [vr, slr] at hs
  obtain ⟨g1, p, g2, g3⟩ := hs
  obtain ⟨x, c', e, hx⟩ : ∃ x c', s' = .slice (some x) l c' ∧ addrr ρ a x := by
    rcases g3 with ⟨_, _, h⟩ | ⟨_, _, _, _, _, h⟩ | ⟨h1, h2, _⟩
    · exact ⟨_, _, h, g1, p, g2, rfl⟩
    · exact ⟨_, _, h, g1, p, g2, rfl⟩
    · rcases h0 with h | h
      · exact absurd h1 h
      · omega
  obtain ⟨ys, hys, hlen, hcell⟩ := hr.row hx hrow
  refine ⟨ys.toArray, fun w2 hw2 => ?_, by simpa using hys⟩
  subst e
  have := run_loadCells_list (P := P) w2 x ys (fun j v hv => by
    have := hcell j v hv
    unfold World.cell? at this ⊢
    rw [hw2]
    exact this)
  rw [hlen] at this
  simpa [Builtin.firstCells] using this

/-- **Append**, once its arguments are known. -/
theorem append_core (hr : Rel P ρ H w) (hf : Fresh ρ H H') {elem : TypeId} {inf : TypeInfo} {z : Value} {size n : Nat} {s s' x v : Value} {new : List Value} {ys : Array Value} {zeros : Bool} {appended : Sem (Array Value)}
    (hi : P.info? elem = some inf) (hz : inf.zero = some z) (hb : 0 < inf.bytes) (hzs : z.cells.size = size) (hs0 : 0 < size)
    (hs : vr ρ s s') (happ : ∀ w2, w2.heap = w.heap → appended.run P w2 = .ok ys w2) (hys : vrL ρ new ys.toList) (hn : new.length = n * size)
    (ha : aAppend H size inf.bytes s n new = some (v, H')) :
    ∃ base l c, s' = .slice base l c ∧ ∃ ρ' w' y, (appendTail elem size zeros base l c n s' x appended).run P w = .ok y w' ∧ Ext P ρ H w ρ' H' w' ∧ vr ρ' v y := by
  have hysl := vrL_length hys
  simp at hysl
  have hdraw := Ext.same hr (w' := World.draw w) rfl rfl rfl rfl
  have hd : (World.draw w).heap = w.heap := rfl
  unfold aAppend at ha
  split at ha
  · -- nil
    simp only [vr] at hs
    refine ⟨none, 0, 0, hs, ?_⟩
    split at ha
    · rename_i hn0
      subst hn0
      simp only [Option.some.injEq, Prod.mk.injEq] at ha
      obtain ⟨rfl, rfl⟩ := ha
      refine ⟨ρ, w, .slice none 0 0, ?_, Ext.refl hr, by simp only [vr]⟩
      simp [appendTail, happ w rfl]
    · rename_i hn0
      split at ha
      · rename_i hmem
        simp only [Option.some.injEq, Prod.mk.injEq] at ha
        obtain ⟨rfl, rfl⟩ := ha
        have h0 : ρ H.size = none := hf _ (Nat.le_refl _) (by simp)
        obtain ⟨cap, hcap, hrun⟩ := grow_run (P := P) (w := w) (l := 0) (c := 0) (n := n) (base := none) (s := s') (x := x) (zeros := zeros) (size := size) (old := #[]) hi hz hb (by omega) (by simpa using hmem) happ (by intro w2 _; rw [hs]; simp [Builtin.firstCells])
        simp only [Nat.zero_add, Array.empty_append] at hrun hcap
        obtain ⟨ρ', hext, hv⟩ := grow_ok (elem := elem) hdraw.rel h0 hys hn hzs hs0 hcap
        exact ⟨ρ', _, _, hrun, hdraw.trans hext, hv⟩
      · cases ha
  · rename_i a l c
    have hs' := hs
    simp only [vr, slr] at hs'
    obtain ⟨g1, p, g2, g3⟩ := hs'
    obtain ⟨x0, c', e0, hlc⟩ : ∃ x c', s' = .slice (some x) l c' ∧ l ≤ c' := by
      rcases g3 with ⟨_, h1, h⟩ | ⟨_, _, _, _, h1, h⟩ | ⟨_, h0, _, h⟩
      · exact ⟨_, _, h, h1⟩
      · exact ⟨_, _, h, h1⟩
      · subst h0; exact ⟨_, _, h, Nat.le_refl _⟩
    refine ⟨some x0, l, c', e0, ?_⟩
    split at ha
    · -- nothing comes
      rename_i hn0
      subst hn0
      simp only [Option.some.injEq, Prod.mk.injEq] at ha
      obtain ⟨rfl, rfl⟩ := ha
      have hy0 : ys = #[] := Array.eq_empty_of_size_eq_zero (by omega)
      subst hy0
      refine ⟨ρ, w, s', ?_, Ext.refl hr, hs⟩
      rw [e0]
      simp [appendTail, hlc, happ w rfl, storeCells]
    · rename_i hn0
      split at ha
      · -- the capacity is not known
        rename_i hco
        subst hco
        split at ha
        · rename_i cs sz hg
          have hbl := AHeap.get_lt hg
          have h0 : ρ H.size = none := by
            split at ha
            · simp only [Option.some.injEq, Prod.mk.injEq] at ha
              obtain ⟨_, rfl⟩ := ha
              exact hf _ (Nat.le_refl _) (by simp)
            · split at ha
              · simp only [Option.some.injEq, Prod.mk.injEq] at ha
                obtain ⟨_, rfl⟩ := ha
                exact hf _ (Nat.le_refl _) (by simp)
              · cases ha
          obtain ⟨c0, t0, fr0, k1, k2, k3, k4, k5, k6⟩ := hr.obj _ p _ g2 hg
          -- what is common to both cases
          have core : ∀ (hsz : sz = size) (hend : a.off + l * size = cs.length) (hmem : (l + n) * inf.bytes ≤ mem) (hone : new.all (·.oneCell') = true)
              (hold : ∃ old : Array Value, (∀ w2, w2.heap = w.heap → (Builtin.firstCells size l s').run P w2 = .ok old w2) ∧ vrL ρ (cs.drop a.off) old.toList)
              (hin : ∀ _ : l + n ≤ c', a.off + c' * p.sz = p.C ∧ x0 = ⟨p.B, p.base + a.off, none⟩),
              ∃ ρ' w' y, (appendTail elem size zeros (some x0) l c' n s' x appended).run P w = .ok y w' ∧
                Ext P ρ H w ρ' ((H.set a.block .dead).push (.cells (cs.drop a.off ++ new) false size)) w' ∧ vr ρ' (.slice (some ⟨H.size, 0, none⟩) (l + n) openCap) y := by
            intro hsz hend hmem hone hold hin
            subst hsz
            by_cases hfit : l + n ≤ c'
            · -- there is room
              obtain ⟨hC, rfl⟩ := hin hfit
              have hC' : a.off + c' * sz = p.C := by rw [k4] at hC; exact hC
              have hln : l * sz + n * sz ≤ c' * sz := by rw [← Nat.add_mul]; exact Nat.mul_le_mul_right _ hfit
              have hput := Ext.put hr g2 hg k1 (cs' := cs ++ new) (c' := setMany c0 (p.base + cs.length) ys.toList) (by simp)
                (fun i hi => by
                  rw [setMany_get _ _ _ _ (by simp; omega), if_neg (by simp; omega)])
                (by simp; omega)
                (fun i v' hv => by
                  rw [setMany_get _ _ _ _ (by simp; omega)]
                  by_cases hlt : i < cs.length
                  · rw [List.getElem?_append_left hlt] at hv
                    rw [if_neg (by omega)]
                    exact k5 i v' hv
                  · rw [List.getElem?_append_right (by omega)] at hv
                    have hlt2 : i - cs.length < new.length := (List.getElem?_eq_some_iff.1 hv).1
                    rw [if_pos (by simp; omega)]
                    obtain ⟨y, hy, hyr⟩ := vrL_get hys hv
                    exact ⟨y, by rw [← hy]; congr 1; omega, hyr⟩)
              have hg2 : (H.set a.block (.cells (cs ++ new) false sz)).get a.block = some (.cells (cs ++ new) false sz) := by
                rw [AHeap.get_set, if_pos ⟨rfl, hbl⟩]
              have hmv := Ext.move hput.rel (by simpa using h0) (off := a.off) g2 hg2 (by simp; omega)
              rw [set_set, List.drop_append_of_le_length (by omega)] at hmv
              refine ⟨_, _, .slice (some ⟨p.B, p.base + a.off, none⟩) (l + n) c', ?_, hput.trans hmv, ?_⟩
              · have hst := run_storeCells' (P := P) (p.base + (a.off + l * sz)) ys.toList 0 c0 w k1 (by simp; omega) (vrL_one hys hone) (fun j hj => by
                  have := k6 rfl (a.off + l * sz + j) (by simp at hj; omega)
                  simpa [Nat.add_assoc] using this)
                simp only [appendTail, Sem.run_ite, if_pos hfit, Sem.run_bind, happ w rfl, Result.andThen_ok, add_addr (⟨p.B, p.base + a.off, none⟩ : Addr) (l * sz) rfl, Nat.add_assoc, hst, Sem.run_pure]
                simp only [hend, Nat.add_zero]
              · unfold vr slr
                refine ⟨rfl, _, by simp only [AHeap.size_set]; exact upd_same _ _ _, .inr (.inl ⟨rfl, c', ?_, by simp only; omega, hfit, by simp⟩)⟩
                simp only
                omega
            · -- a new row
              obtain ⟨old, hold1, hold2⟩ := hold
              obtain ⟨cap, hcap, hrun⟩ := grow_run (P := P) (w := w) (l := l) (c := c') (n := n) (base := some x0) (s := s') (x := x) (zeros := zeros) (size := sz) (old := old) hi hz hb (by omega) hmem happ hold1
              have hkill := Ext.kill hdraw.rel g2
              obtain ⟨ρ', hext, hv⟩ := grow_ok (elem := elem) (m := l + n) (ds := old ++ ys) (cs := cs.drop a.off ++ new) hkill.rel (by simpa using h0) (by rw [Array.toList_append]; exact vrL_append hold2 hys)
                (by simp only [List.length_append, List.length_drop, hn, Nat.add_mul]; omega) hzs hs0 hcap
              refine ⟨ρ', _, _, hrun, (hdraw.trans hkill).trans hext, ?_⟩
              simpa [hd] using hv
          split at ha
          · rename_i hcond
            obtain ⟨hsz, hl0, hend, hmem, hone⟩ := hcond
            simp only [Option.some.injEq, Prod.mk.injEq] at ha
            obtain ⟨rfl, rfl⟩ := ha
            refine core hsz hend hmem hone ?_ ?_
            · have hrow : H.row a (l * size) = some (cs.drop a.off) := by
                unfold AHeap.row
                rw [hg]
                simp only
                rw [if_pos (by omega), List.take_of_length_le (by simp; omega)]
              exact firstCells_run hr hs hrow (.inr hl0)
            · intro hfit
              rcases g3 with ⟨h, _⟩ | ⟨_, cap', h1, h2, h3, h4⟩ | ⟨_, h, _⟩
              · exact absurd h (Nat.lt_irrefl _)
              · rw [e0] at h4
                simp only [Value.slice.injEq, Option.some.injEq] at h4
                obtain ⟨rfl, _, rfl⟩ := h4
                exact ⟨h1, rfl⟩
              · omega
          · split at ha
            · rename_i hcond
              obtain ⟨hl0, hmem, hsz, hend, hone⟩ := hcond
              simp only [Option.some.injEq, Prod.mk.injEq] at ha
              obtain ⟨rfl, rfl⟩ := ha
              subst hl0
              have hdr : cs.drop a.off = [] := List.drop_eq_nil_of_le (by omega)
              have := core hsz (by omega) (by simpa using hmem) hone ?_ ?_
              · rw [hdr] at this
                simpa using this
              · refine ⟨#[], fun w2 _ => ?_, by rw [hdr]; simp [vrL]⟩
                rw [e0]
                simp [Builtin.firstCells, loadCells, loadCellsFrom]
              · intro hfit
                rcases g3 with ⟨h, _⟩ | ⟨_, cap', h1, h2, h3, h4⟩ | ⟨_, _, y, h4⟩
                · exact absurd h (Nat.lt_irrefl _)
                · rw [e0] at h4
                  simp only [Value.slice.injEq, Option.some.injEq] at h4
                  obtain ⟨rfl, _, rfl⟩ := h4
                  exact ⟨h1, rfl⟩
                · rw [e0] at h4
                  simp only [Value.slice.injEq] at h4
                  omega
            · cases ha
        · cases ha
      · -- the capacity is known
        rename_i hco
        have hx : c' = c ∧ x0 = ⟨p.B, p.base + a.off, none⟩ ∧ c < openCap := by
          rcases g3 with ⟨h1, _, h⟩ | ⟨h, _⟩ | ⟨h, _⟩
          · rw [e0] at h
            simp only [Value.slice.injEq, Option.some.injEq] at h
            exact ⟨h.2.2, h.1, h1⟩
          · exact absurd h hco
          · exact absurd h hco
        obtain ⟨rfl, rfl, hclt⟩ := hx
        have hax : addrr ρ a ⟨p.B, p.base + a.off, none⟩ := ⟨g1, p, g2, rfl⟩
        split at ha
        · rename_i hfit
          split at ha
          · rename_i H1 hst
            simp only [Option.some.injEq, Prod.mk.injEq] at ha
            obtain ⟨rfl, rfl⟩ := ha
            obtain ⟨w', hrun, hext⟩ := hr.store (addrr_add hax (l * size)) hys hst
            refine ⟨ρ, w', .slice (some ⟨p.B, p.base + a.off, none⟩) (l + n) c', ?_, hext, ?_⟩
            · simp only [appendTail, Sem.run_ite, if_pos hfit, Sem.run_bind, happ w rfl, Result.andThen_ok, hrun, Sem.run_pure]
            · unfold vr slr
              exact ⟨g1, p, g2, .inl ⟨hclt, hfit, rfl⟩⟩
          · cases ha
        · rename_i hfit
          split at ha
          · rename_i hmem
            split at ha
            · rename_i old hrow
              simp only [Option.some.injEq, Prod.mk.injEq] at ha
              obtain ⟨rfl, rfl⟩ := ha
              have h0 : ρ H.size = none := hf _ (Nat.le_refl _) (by simp)
              obtain ⟨ds, hd1, hd2⟩ := firstCells_run hr hs hrow (.inl hco)
              have hol : old.length = l * size := by
                unfold AHeap.row at hrow
                split at hrow
                · split at hrow
                  · obtain rfl := Option.some.inj hrow
                    simp
                    omega
                  · cases hrow
                · cases hrow
              obtain ⟨cap, hcap, hrun⟩ := grow_run (P := P) (w := w) (l := l) (c := c') (n := n) (base := some ⟨p.B, p.base + a.off, none⟩) (s := s') (x := x) (zeros := zeros) (size := size) (old := ds) hi hz hb (by omega) hmem happ hd1
              obtain ⟨ρ', hext, hv⟩ := grow_ok (elem := elem) (m := l + n) (ds := ds ++ ys) (cs := old ++ new) hdraw.rel h0 (by rw [Array.toList_append]; exact vrL_append hd2 hys)
                (by simp only [List.length_append, hn, Nat.add_mul]; omega) hzs hs0 hcap
              exact ⟨ρ', _, _, hrun, hdraw.trans hext, hv⟩
            · cases ha
          · cases ha
  · cases ha

end Go.Abs
