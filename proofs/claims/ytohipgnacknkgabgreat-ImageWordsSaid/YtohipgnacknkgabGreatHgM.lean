/-
  ABS, part M: each operation of the abstract machine is what the model does (eight: the builtins). (Own work.)
-/
import Derived.Test.YtohipgnacknkgabGreatHgL
set_option linter.unusedSimpArgs false
set_option linter.unusedVariables false
namespace Go.Abs
open Go

variable {P : Program}
variable {ρ : Rho} {H H' : AHeap} {w : World} {r : AR} {o : Oper} {io : IOp} {ev : Operand → Value} {ev' : Operand → Option Value}

theorem exec_builtin {c : Call} {b : Builtin} (ho : o.op = .call c) (hb : c.callee = .builtin b) :
    (execOp ev o).run P w = (builtin b c.argTypes o.type (c.args.map fun | .const _ => true | _ => false) (c.args.map ev)).run P w := by
  simp only [execOp, ho, resolve, hb, Sem.run_bind, Sem.run_pure, Result.andThen_ok, invoke]
  rfl

theorem slice_addr {a : Addr} {l c : Nat} {s' : Value} (hs : vr ρ (.slice (some a) l c) s') (h0 : c ≠ openCap ∨ 0 < l) : ∃ x c', s' = .slice (some x) l c' ∧ addrr ρ a x := by
  simp only [vr, slr] at hs
  obtain ⟨g1, p, g2, g3⟩ := hs
  rcases g3 with ⟨_, _, h⟩ | ⟨_, _, _, _, _, h⟩ | ⟨h1, h2, _⟩
  · exact ⟨_, _, h, g1, p, g2, rfl⟩
  · exact ⟨_, _, h, g1, p, g2, rfl⟩
  · rcases h0 with h | h
    · exact absurd h1 h
    · omega

theorem slice_len {a : Option Addr} {l c : Nat} {s' : Value} (hs : vr ρ (.slice a l c) s') : ∃ x c', s' = .slice x l c' ∧ (a = none → x = none) := by
  cases a with
  | none => simp only [vr] at hs; exact ⟨_, _, hs, fun _ => rfl⟩
  | some a =>
    simp only [vr, slr] at hs
    obtain ⟨g1, p, g2, g3⟩ := hs
    rcases g3 with ⟨_, _, h⟩ | ⟨_, _, _, _, _, h⟩ | ⟨_, rfl, x, h⟩
    · exact ⟨_, _, h, by simp⟩
    · exact ⟨_, _, h, by simp⟩
    · exact ⟨_, _, h, by simp⟩

theorem row_take {a : Addr} {n m : Nat} {vs : List Value} (h : H.row a n = some vs) (hm : m ≤ n) : H.row a m = some (vs.take m) := by
  unfold AHeap.row at *
  split at h
  · split at h
    · obtain rfl := Option.some.inj h
      rw [if_pos (by omega), List.take_take, Nat.min_eq_left hm]
    · cases h
  · cases h

theorem row_length {a : Addr} {n : Nat} {vs : List Value} (h : H.row a n = some vs) : vs.length = n := by
  unfold AHeap.row at *
  split at h
  · split at h
    · obtain rfl := Option.some.inj h
      simp
      omega
    · cases h
  · cases h

theorem vr_byteVals (ρ : Rho) : ∀ (l : List UInt8), vrL ρ (l.map fun b => Value.int .u8 b.toNat) (l.map fun b => Value.int .u8 b.toNat)
  | [] => by simp [vrL]
  | b :: l => by
    simp only [List.map_cons, vrL]
    exact ⟨_, _, rfl, by simp only [vr], vr_byteVals ρ l⟩

/-- What is appended, or copied. -/
theorem source_ok (hr : Rel P ρ H w) {size n : Nat} {x x' : Value} {new : List Value} (hx : vr ρ x x') (h : H.source size x = some (n, new)) :
    (∀ w2, (Builtin.lenOf x').run P w2 = .ok n w2) ∧ new.length = n * size ∧
      ∀ m, m ≤ n → ∃ ys : Array Value, vrL ρ (new.take (m * size)) ys.toList ∧ ∀ w2, w2.heap = w.heap → (Builtin.firstCells size m x').run P w2 = .ok ys w2 := by
  unfold AHeap.source at h
  split at h
  · simp only [Option.some.injEq, Prod.mk.injEq] at h
    obtain ⟨rfl, rfl⟩ := h
    simp only [vr] at hx
    subst hx
    refine ⟨fun w2 => by simp [Builtin.lenOf], by simp, fun m hm => ⟨#[], by simp [vrL], fun w2 _ => by simp [Builtin.firstCells]⟩⟩
  · rename_i a l c
    split at h
    · rename_i h0
      subst h0
      simp only [Option.some.injEq, Prod.mk.injEq] at h
      obtain ⟨rfl, rfl⟩ := h
      obtain ⟨y, c', e, _⟩ := slice_len hx
      subst e
      refine ⟨fun w2 => by simp [Builtin.lenOf], by simp, fun m hm => ⟨#[], by simp [vrL], fun w2 _ => ?_⟩⟩
      obtain rfl : m = 0 := by omega
      cases y <;> simp [Builtin.firstCells, loadCells, loadCellsFrom]
    · rename_i h0
      rw [Option.map_eq_some_iff] at h
      obtain ⟨vs, hvs, e⟩ := h
      simp only [Prod.mk.injEq] at e
      obtain ⟨rfl, rfl⟩ := e
      obtain ⟨y, c', e, hy⟩ := slice_addr hx (.inr (by omega))
      subst e
      refine ⟨fun w2 => by simp [Builtin.lenOf], row_length hvs, fun m hm => ?_⟩
      have hrow := row_take hvs (Nat.mul_le_mul_right size hm)
      obtain ⟨ys, hys, hlen, hcell⟩ := hr.row hy hrow
      refine ⟨ys.toArray, by simpa using hys, fun w2 hw2 => ?_⟩
      have := run_loadCells_list (P := P) w2 y ys (fun j v hv => by
        have := hcell j v hv
        unfold World.cell? at this ⊢
        rw [hw2]
        exact this)
      rw [hlen] at this
      simpa [Builtin.firstCells] using this
  · rename_i s
    split at h
    · rename_i h1
      subst h1
      simp only [Option.some.injEq, Prod.mk.injEq] at h
      obtain ⟨rfl, rfl⟩ := h
      simp only [vr] at hx
      subst hx
      refine ⟨fun w2 => by simp [Builtin.lenOf], by simp [byteVals], fun m hm => ⟨(s.extract 0 m).data.map fun b => .int .u8 b.toNat, ?_, fun w2 _ => by simp [Builtin.firstCells]⟩⟩
      have : (byteVals s).take (m * 1) = ((s.extract 0 m).data.map fun b => Value.int .u8 b.toNat).toList := by
        simp [byteVals, List.map_take]
      rw [this, Array.toList_map]
      exact vr_byteVals ρ _
    · cases h
  · cases h

theorem s_append (hr : Rel P ρ H w) (he : evR ρ ev ev') {c : Call} (ho : o.op = .call c) (hb : c.callee = .builtin .append) (hc : cOp P o = some io) (hf : Fresh ρ H H') (ha : aop io ev' H = some (r, H')) :
    Sound1 P ρ H w r H' ((execOp ev o).run P w) := by
  rw [exec_builtin ho hb]
  simp only [cOp, ho, hb, cBuiltin] at hc
  split at hc
  rotate_left
  · cases hc
  rename_i sT xT s x hh
  simp only [Prod.mk.injEq] at hh
  obtain ⟨hT0, hT1, hA0, hA1⟩ := hh
  split at hc
  rotate_left
  · cases hc
  rename_i elem hu
  have hA0' : (c.args.map ev)[0]? = some (ev s) := by simp [hA0]
  have hA1' : (c.args.map ev)[1]? = some (ev x) := by simp [hA1]
  have main : ∀ (size bytes : Nat) (z : Value) (s1 x1 : Operand), tsize P elem = some size → tbytes P elem = some bytes → (P.info? elem).bind (·.zero) = some z → z.cells.size = size → size ≠ 0 → bytes ≠ 0 → cOpd s = some s1 → cOpd x = some x1 →
      ∀ (xd : TypeDesc), P.underlying xT = some xd → (∀ k, xd ≠ .int k) → io = .append size bytes s1 x1 →
      Sound1 P ρ H w r H' ((builtin .append c.argTypes o.type (c.args.map fun | .const _ => true | _ => false) (c.args.map ev)).run P w) := by
    intro size bytes z s1 x1 hs hbt hz hzs hs0 hb0 hcs hcx xd hxd hni hio
    subst hio
    simp only [aop] at ha
    split at ha
    rotate_left
    · cases ha
    rename_i sv xv hsv hxv
    split at ha
    rotate_left
    · cases ha
    rename_i n new hsrc
    split at ha
    rotate_left
    · cases ha
    rename_i v H1 hap
    obtain ⟨rfl, rfl⟩ := val_eq ha
    have h1 := he _ _ _ hcs hsv
    have h2 := he _ _ _ hcx hxv
    obtain ⟨k1, k2, k3⟩ := source_ok hr h2 hsrc
    obtain ⟨ys, k4, k5⟩ := k3 n (Nat.le_refl _)
    rw [List.take_of_length_le (by omega)] at k4
    unfold tsize at hs
    unfold tbytes at hbt
    obtain ⟨inf, hi, e1⟩ := Option.map_eq_some_iff.1 hs
    rw [hi] at hz hbt
    simp only [Option.bind_some, Option.map_some, Option.some.injEq] at hz hbt
    obtain ⟨base, l, cc, e, ρ', w', y, g1, g2, g3⟩ := append_core (z := z) (zeros := false) (x := ev x) hr hf hi hz (by omega) hzs (by omega) h1 k5 k4 k2 (by rw [hbt]; exact hap)
    refine ⟨ρ', w', g2, y, ?_, g3⟩
    have hz0 : (match (generalizing := false) xd with | .int _ => true | _ => false) = false := by
      cases xd <;> first | rfl | exact absurd rfl (hni _)
    have hs' : ∀ w, (sizeOf elem).run P w = .ok size w := fun w => run_sizeOf' (by simp [tsize, hi, e1]) w
    have hrun : (Builtin.append_ c.argTypes o.type (c.args.map ev)).run P w = (appendTail elem size false base l cc n (ev s) (ev x) (Builtin.firstCells size n (ev x))).run P w := by
      simp only [Builtin.append_, hT0, hT1, hA0', hA1', Sem.run_bind, run_underlying' hu, run_underlying' hxd, Result.andThen_ok, e, hs', Sem.run_pure, hz0, Bool.false_eq_true, if_false, k1, Bool.not_false, if_true]
      rw [← e]
      simp only [appendTail, Bool.false_eq_true, if_false]
      rfl
    simp only [builtin, Sem.run_bind, hrun, g1, Result.andThen_ok, Sem.run_pure]
  have mainZ : ∀ (size bytes : Nat) (z : Value) (s1 x1 : Operand), tsize P elem = some size → tbytes P elem = some bytes → tzero P elem = some z → z.cells.size = size → size ≠ 0 → bytes ≠ 0 → cOpd s = some s1 → cOpd x = some x1 →
      ∀ k, P.underlying xT = some (.int k) → io = .appendZ size bytes z.cells.toList s1 x1 →
      Sound1 P ρ H w r H' ((builtin .append c.argTypes o.type (c.args.map fun | .const _ => true | _ => false) (c.args.map ev)).run P w) := by
    intro size bytes z s1 x1 hs hbt hz hzs hs0 hb0 hcs hcx k hxd hio
    subst hio
    simp only [aop] at ha
    split at ha
    rotate_left
    · cases ha
    rename_i sv k1 n hsv hxv
    split at ha
    rotate_left
    · cases ha
    rename_i hn
    split at ha
    rotate_left
    · cases ha
    rename_i v H1 hap
    obtain ⟨rfl, rfl⟩ := val_eq ha
    have h1 := he _ _ _ hcs hsv
    have h2 := vr_int (he _ _ _ hcx hxv)
    have hzf := tzero_flat hz
    have hz' : ∀ w, (zeroValue elem).run P w = .ok z w := fun w => run_zeroValue' hz w
    have hs' : ∀ w, (sizeOf elem).run P w = .ok size w := fun w => run_sizeOf' hs w
    unfold tsize at hs
    unfold tbytes at hbt
    unfold tzero at hz
    obtain ⟨inf, hi, e1⟩ := Option.map_eq_some_iff.1 hs
    rw [hi] at hz hbt
    simp only [Option.bind_some, Option.map_some, Option.some.injEq] at hz hbt
    obtain ⟨z', hz1, hz2⟩ := Option.bind_eq_some_iff.1 hz
    split at hz2
    rotate_left
    · cases hz2
    obtain rfl := Option.some.inj hz2
    obtain ⟨m, rfl⟩ : ∃ m : Nat, n = m := ⟨n.toNat, by omega⟩
    have hm : m * bytes ≤ mem := by have := hn.2; exact_mod_cast this
    have hmm : m ≤ m * bytes := Nat.le_mul_of_pos_right _ (by omega)
    simp only [Int.toNat_natCast] at hap
    have happ : ∀ w2, w2.heap = w.heap → Sem.run P (if m * size = 0 then pure #[] else do pure (Builtin.zeroCells (← zeroValue elem).cells m)) w2 = .ok (Builtin.zeroCells z'.cells m) w2 := by
      intro w2 _
      split
      · rename_i h0
        have : m = 0 := by rcases Nat.mul_eq_zero.1 h0 with h | h <;> omega
        subst this
        simp [Builtin.zeroCells]
      · simp only [Sem.run_bind, hz', Result.andThen_ok, Sem.run_pure]
    have hys : vrL ρ ((List.range (m * size)).map fun i => z'.cells.toList.getD (i % size) .nilFunc) (Builtin.zeroCells z'.cells m).toList := by
      have hcz : vrL ρ z'.cells.toList z'.cells.toList := by
        have := vr_cells (flat_vr ρ z' hzf)
        cases z' <;> simpa [vcells, Value.cells] using this
      simp only [Builtin.zeroCells, Array.toList_map, Array.toList_range, hzs]
      refine vrL_of_get (by simp) (fun i x hx => ?_)
      have hlt0 : i < m * size := by
        have := (List.getElem?_eq_some_iff.1 hx).1
        simpa using this
      simp only [List.getElem?_map] at hx ⊢
      rw [List.getElem?_range hlt0] at hx ⊢
      simp only [Option.map_some, Option.some.injEq] at hx ⊢
      refine ⟨_, rfl, ?_⟩
      have hlt : i % size < z'.cells.size := by rw [hzs]; exact Nat.mod_lt _ (by omega)
      obtain ⟨y, hy, hyr⟩ := vrL_get hcz (i := i % size) (x := z'.cells[i % size]) (by simp [hlt])
      have e2 : z'.cells.toList.getD (i % size) .nilFunc = z'.cells[i % size] := by simp [List.getD, hlt]
      rw [e2] at hx
      subst hx
      have e3 : z'.cells[i % size]! = z'.cells[i % size] := by simp [hlt]
      rw [e3]
      simp [hlt] at hy
      rw [← hy] at hyr
      exact hyr
    obtain ⟨base, l, cc, e, ρ', w', y, g1, g2, g3⟩ := append_core (z := z') (n := m) (zeros := true) (x := ev x) hr hf hi hz1 (by omega) hzs (by omega) h1 happ hys (by simp) (by rw [hbt]; exact hap)
    refine ⟨ρ', w', g2, y, ?_, g3⟩
    have hwr : IntKind.i64.wrap (m : Int) = m := by rw [IntKind.wrap_i64]; simp only [mem] at hm; omega
    have hty : ∀ w2, (typeInfo elem).run P w2 = .ok inf w2 := by
      intro w2
      simp [typeInfo, hi]
    have hb48 : ¬ ((m : Int) * (inf.bytes : Int) > 2 ^ 48) := by
      have h3 : ((m * bytes : Nat) : Int) ≤ (mem : Nat) := by exact_mod_cast hm
      have h4 : (2 : Int) ^ 48 = 281474976710656 := by decide
      simp only [mem] at h3
      rw [hbt, h4]
      rw [Int.natCast_mul] at h3
      omega
    have hrun : (Builtin.append_ c.argTypes o.type (c.args.map ev)).run P w = (appendTail elem size true base l cc m (ev s) (ev x) (if m * size = 0 then pure #[] else do pure (Builtin.zeroCells (← zeroValue elem).cells m))).run P w := by
      have hm0 : ¬ ((m : Int) < 0) := by omega
      simp only [Builtin.append_, hT0, hT1, hA0', hA1', Sem.run_bind, run_underlying' hu, run_underlying' hxd, Result.andThen_ok, e, hs', Sem.run_pure, if_true, h2, asInt, asIntOf, hwr, Sem.run_ite, if_neg hm0, hty, if_neg hb48, Int.toNat_natCast, Bool.not_true, Bool.false_eq_true, if_false]
      rw [← e, ← h2]
      simp only [appendTail, Sem.run_bind, Sem.run_ite, hty, Result.andThen_ok, Sem.run_pure, if_true, Bool.false_eq_true, if_false]
      rfl
    simp only [builtin, Sem.run_bind, hrun, g1, Result.andThen_ok, Sem.run_pure]
  split at hc
  · -- a slice
    rename_i xd hxd
    simp only [Option.bind_eq_bind, Option.bind_eq_some_iff] at hc
    obtain ⟨size, hs, bytes, hbt, z, ⟨inf, hi, hz⟩, hc⟩ := hc
    split at hc
    · cases hc
    rename_i hcond
    simp only [Bool.or_eq_true, decide_eq_true_eq, not_or, ne_eq, Decidable.not_not, Option.bind_eq_some_iff, Option.pure_def, Option.some.injEq] at hcond hc
    obtain ⟨s1, hs1, x1, hx1, rfl⟩ := hc
    exact main size bytes z s1 x1 hs hbt (by simp [hi, hz]) hcond.2 hcond.1.1 hcond.1.2 hs1 hx1 _ hxd (fun _ => by simp) rfl
  · rename_i hxd
    simp only [Option.bind_eq_bind, Option.bind_eq_some_iff] at hc
    obtain ⟨size, hs, bytes, hbt, z, ⟨inf, hi, hz⟩, hc⟩ := hc
    split at hc
    · cases hc
    rename_i hcond
    simp only [Bool.or_eq_true, decide_eq_true_eq, not_or, ne_eq, Decidable.not_not, Option.bind_eq_some_iff, Option.pure_def, Option.some.injEq] at hcond hc
    obtain ⟨s1, hs1, x1, hx1, rfl⟩ := hc
    exact main size bytes z s1 x1 hs hbt (by simp [hi, hz]) hcond.2 hcond.1.1 hcond.1.2 hs1 hx1 _ hxd (fun _ => by simp) rfl
  · rename_i k hxd
    simp only [Option.bind_eq_bind, Option.bind_eq_some_iff] at hc
    obtain ⟨size, hs, bytes, hbt, z, hz, hc⟩ := hc
    split at hc
    · cases hc
    rename_i hcond
    simp only [Bool.or_eq_true, decide_eq_true_eq, not_or, ne_eq, Decidable.not_not, Option.bind_eq_some_iff, Option.pure_def, Option.some.injEq] at hcond hc
    obtain ⟨s1, hs1, x1, hx1, rfl⟩ := hc
    exact mainZ size bytes z s1 x1 hs hbt hz hcond.2 hcond.1.1 hcond.1.2 hs1 hx1 _ hxd rfl
  · cases hc

theorem s_copy (hr : Rel P ρ H w) (he : evR ρ ev ev') {c : Call} (ho : o.op = .call c) (hb : c.callee = .builtin .copy) (hc : cOp P o = some io) (ha : aop io ev' H = some (r, H')) :
    Sound1 P ρ H w r H' ((execOp ev o).run P w) := by
  rw [exec_builtin ho hb]
  simp only [cOp, ho, hb, cBuiltin] at hc
  split at hc
  rotate_left
  · cases hc
  rename_i dT d s hh
  simp only [Prod.mk.injEq] at hh
  obtain ⟨hT0, hA0, hA1⟩ := hh
  split at hc
  rotate_left
  · cases hc
  rename_i elem hu
  have hA0' : (c.args.map ev)[0]? = some (ev d) := by simp [hA0]
  have hA1' : (c.args.map ev)[1]? = some (ev s) := by simp [hA1]
  simp only [Option.bind_eq_bind, Option.bind_eq_some_iff, Option.pure_def, Option.some.injEq] at hc
  obtain ⟨size, hs, d1, hd1, s1, hs1, rfl⟩ := hc
  simp only [aop] at ha
  split at ha
  rotate_left
  · cases ha
  rename_i b dl cc sv hdv hsv
  have h1 := he _ _ _ hd1 hdv
  have h2 := he _ _ _ hs1 hsv
  split at ha
  rotate_left
  · cases ha
  rename_i n cs hsrc
  obtain ⟨k1, k2, k3⟩ := source_ok hr h2 hsrc
  obtain ⟨ys, k4, k5⟩ := k3 (Nat.min n dl) (Nat.min_le_left _ _)
  have hs' : ∀ w, (sizeOf elem).run P w = .ok size w := fun w => run_sizeOf' hs w
  split at ha
  · obtain ⟨rfl, rfl⟩ := val_eq ha
    simp only [vr] at h1
    refine Sound1.pure hr (x := goInt (Nat.min n dl)) ?_ (by simp only [goInt, vr])
    simp only [builtin, Builtin.copy_, hT0, hA0', hA1', Sem.run_bind, run_underlying' hu, Result.andThen_ok, h1, k1, hs', k5 w rfl, Sem.run_pure]
  · rename_i a
    split at ha
    rotate_left
    · cases ha
    rename_i H1 hst
    obtain ⟨rfl, rfl⟩ := val_eq ha
    by_cases hz : cc = openCap ∧ dl = 0
    · obtain ⟨rfl, rfl⟩ := hz
      obtain ⟨y, c', e, _⟩ := slice_len h1
      have hm0 : Nat.min n 0 = 0 := Nat.min_zero n
      rw [hm0] at hst k4 k5
      simp only [Nat.zero_mul, List.take_zero] at hst k4
      have : ys = #[] := by
        have := vrL_length k4
        exact Array.eq_empty_of_size_eq_zero (by simpa using this)
      subst this
      simp only [AHeap.store, if_true, Option.some.injEq] at hst
      subst hst
      refine Sound1.pure hr (x := goInt (0 : Nat)) ?_ (by rw [hm0]; simp only [goInt, vr])
      cases y with
      | none => simp only [builtin, Builtin.copy_, hT0, hA0', hA1', Sem.run_bind, run_underlying' hu, Result.andThen_ok, e, k1, hs', hm0, k5 w rfl, Sem.run_pure]
      | some y => simp only [builtin, Builtin.copy_, hT0, hA0', hA1', Sem.run_bind, run_underlying' hu, Result.andThen_ok, e, k1, hs', hm0, k5 w rfl, Sem.run_pure, storeCells]
    · obtain ⟨y, c', e, hy⟩ := slice_addr h1 (by
        by_cases h : cc = openCap
        · exact .inr (by have : dl ≠ 0 := fun h' => hz ⟨h, h'⟩
                         omega)
        · exact .inl h)
      obtain ⟨w', hrun, hext⟩ := hr.store hy k4 hst
      refine ⟨ρ, w', hext, goInt (Nat.min n dl), ?_, by simp only [goInt, vr]⟩
      simp only [builtin, Builtin.copy_, hT0, hA0', hA1', Sem.run_bind, run_underlying' hu, Result.andThen_ok, e, k1, hs', k5 w rfl, hrun, Sem.run_pure]

theorem s_len (hr : Rel P ρ H w) (he : evR ρ ev ev') {c : Call} (ho : o.op = .call c) (hb : c.callee = .builtin .len) (hc : cOp P o = some io) (ha : aop io ev' H = some (r, H')) :
    Sound1 P ρ H w r H' ((execOp ev o).run P w) := by
  rw [exec_builtin ho hb]
  simp only [cOp, ho, hb, cBuiltin] at hc
  split at hc
  rotate_left
  · cases hc
  rename_i t x hh
  simp only [Prod.mk.injEq] at hh
  obtain ⟨hT0, hA0⟩ := hh
  have hA0' : (c.args.map ev)[0]? = some (ev x) := by simp [hA0]
  have hlen : ∀ {y w'}, (Builtin.len_ c.argTypes o.type (c.args.map ev)).run P w = .ok y w' → (builtin .len c.argTypes o.type (c.args.map fun | .const _ => true | _ => false) (c.args.map ev)).run P w = .ok (.value y) w' := by
    intro y w' h
    simp only [builtin, Sem.run_bind, h, Result.andThen_ok, Sem.run_pure]
  split at hc
  · rename_i hu
    simp only [Option.bind_eq_bind, Option.bind_eq_some_iff, Option.pure_def, Option.some.injEq] at hc
    obtain ⟨x1, hx1, rfl⟩ := hc
    simp only [aop] at ha
    split at ha
    all_goals try (rename_i hk; exact absurd hk (by decide))
    · rename_i s _ hv
      obtain ⟨rfl, rfl⟩ := val_eq ha
      have h1 := vr_str (he _ _ _ hx1 hv)
      exact Sound1.pure hr (x := goInt s.size) (hlen (by simp only [Builtin.len_, hT0, hA0', Sem.run_bind, run_underlying' hu, Result.andThen_ok, h1, Sem.run_pure])) (by simp only [goInt, vr])
    all_goals simp_all
  · rename_i e hu
    simp only [Option.bind_eq_bind, Option.bind_eq_some_iff, Option.pure_def, Option.some.injEq] at hc
    obtain ⟨x1, hx1, rfl⟩ := hc
    simp only [aop] at ha
    split at ha
    · simp_all
    · rename_i a n c0 _ hv
      obtain ⟨rfl, rfl⟩ := val_eq ha
      obtain ⟨y, c', h1, _⟩ := slice_len (he _ _ _ hx1 hv)
      exact Sound1.pure hr (x := goInt n) (hlen (by simp only [Builtin.len_, hT0, hA0', Sem.run_bind, run_underlying' hu, Result.andThen_ok, h1, Sem.run_pure])) (by simp only [goInt, vr])
    all_goals simp_all
  · rename_i k v hu
    simp only [Option.bind_eq_bind, Option.bind_eq_some_iff, Option.pure_def, Option.some.injEq] at hc
    obtain ⟨x1, hx1, rfl⟩ := hc
    simp only [aop] at ha
    split at ha
    · simp_all
    · simp_all
    · rename_i _ hv
      obtain ⟨rfl, rfl⟩ := val_eq ha
      have h1 := he _ _ _ hx1 hv
      simp only [vr] at h1
      exact Sound1.pure hr (x := goInt 0) (hlen (by simp only [Builtin.len_, hT0, hA0', Sem.run_bind, run_underlying' hu, Result.andThen_ok, h1, Sem.run_pure])) (by simp only [goInt, vr])
    · rename_i b _ hv
      have h1 := he _ _ _ hx1 hv
      simp only [vr] at h1
      obtain ⟨p, hp, h1⟩ := h1
      split at ha
      · rename_i es clock hg
        obtain ⟨rfl, rfl⟩ := val_eq ha
        obtain ⟨_, _, ces, hh, hmr⟩ := hr.obj _ p _ hp hg
        have hget : (getObj p.B).run P w = .ok (.map ces clock) w := by simp [getObj, Sem.run, hh]
        have hsz := mapR_length hmr
        refine Sound1.pure hr (x := goInt ces.size) (hlen (by simp only [Builtin.len_, hT0, hA0', Sem.run_bind, run_underlying' hu, Result.andThen_ok, h1, hget, Sem.run_pure])) ?_
        simp only [goInt, vr]
        simp at hsz
        rw [hsz]
      · cases ha
    · cases ha
  · cases hc

theorem s_cap (hr : Rel P ρ H w) (he : evR ρ ev ev') {c : Call} (ho : o.op = .call c) (hb : c.callee = .builtin .cap) (hc : cOp P o = some io) (ha : aop io ev' H = some (r, H')) :
    Sound1 P ρ H w r H' ((execOp ev o).run P w) := by
  rw [exec_builtin ho hb]
  simp only [cOp, ho, hb, cBuiltin] at hc
  split at hc
  rotate_left
  · cases hc
  rename_i t x hh
  simp only [Prod.mk.injEq] at hh
  obtain ⟨hT0, hA0⟩ := hh
  have hA0' : (c.args.map ev)[0]? = some (ev x) := by simp [hA0]
  split at hc
  · rename_i e hu
    simp only [Option.bind_eq_bind, Option.bind_eq_some_iff, Option.pure_def, Option.some.injEq] at hc
    obtain ⟨x1, hx1, rfl⟩ := hc
    simp only [aop] at ha
    split at ha
    · rename_i a n c0 hv
      split at ha
      · cases ha
      rename_i hne
      obtain ⟨rfl, rfl⟩ := val_eq ha
      have h1 := he _ _ _ hx1 hv
      obtain ⟨x', e1⟩ : ∃ x', ev x = .slice x' n c0 := by
        cases a with
        | none => simp only [vr] at h1; exact ⟨_, h1⟩
        | some a =>
          simp only [vr, slr] at h1
          obtain ⟨_, p, _, g3⟩ := h1
          rcases g3 with ⟨_, _, h⟩ | ⟨h, _⟩ | ⟨h, _⟩
          · exact ⟨_, h⟩
          · exact absurd h hne
          · exact absurd h hne
      refine Sound1.pure hr (x := goInt c0) ?_ (by simp only [goInt, vr])
      simp only [builtin, Builtin.cap_, hT0, hA0', Sem.run_bind, run_underlying' hu, Result.andThen_ok, e1, Sem.run_pure]
    · cases ha
  · cases hc

theorem minmax_ok (gt : Bool) {f : Value → Value → Sem Value} (hf : ∀ k x k' y, f (.int k x) (.int k' y) = pure (.int k (if (if gt then y > x else y < x) then y else x))) :
    ∀ {l ys : List Value} {k : IntKind} {x : Int} {v : Value}, minmax gt (.int k x) l = some v → vrL ρ l ys → ∀ w, (ys.foldlM f (.int k x)).run P w = .ok v w ∧ vr ρ v v
  | [], ys, k, x, v, h, hy, w => by
    simp only [vrL] at hy
    subst hy
    simp only [minmax, Option.some.injEq] at h
    subst h
    exact ⟨by simp, by simp only [vr]⟩
  | y :: l, ys, k, x, v, h, hy, w => by
    simp only [vrL] at hy
    obtain ⟨y', ys', rfl, hy1, hy2⟩ := hy
    cases y with
    | int k' y =>
      simp only [minmax] at h
      have := vr_int hy1
      subst this
      obtain ⟨g1, g2⟩ := minmax_ok gt hf h hy2 w
      refine ⟨?_, g2⟩
      simp only [List.foldlM_cons, hf, Sem.run_bind, Sem.run_pure, Result.andThen_ok, g1]
    | _ => simp [minmax] at h

theorem s_minmax (hr : Rel P ρ H w) (he : evR ρ ev ev') {c : Call} (ho : o.op = .call c) (hb : c.callee = .builtin .min ∨ c.callee = .builtin .max) (hc : cOp P o = some io) (ha : aop io ev' H = some (r, H')) :
    Sound1 P ρ H w r H' ((execOp ev o).run P w) := by
  rcases hb with hb | hb
  · rw [exec_builtin ho hb]
    simp only [cOp, ho, hb, cBuiltin, Option.bind_eq_bind, Option.bind_eq_some_iff, Option.pure_def, Option.some.injEq] at hc
    obtain ⟨xs, hxs, rfl⟩ := hc
    simp only [aop] at ha
    split at ha
    · rename_i k x l hv
      simp only [Option.bind_eq_bind, Option.bind_eq_some_iff] at ha
      obtain ⟨v, hmm, ha⟩ := ha
      obtain ⟨rfl, rfl⟩ := val_eq ha
      have h1 := opds_vr he hxs hv
      simp only [vrL] at h1
      obtain ⟨y, ys, e1, h2, h3⟩ := h1
      have := vr_int h2
      subst this
      obtain ⟨g1, g2⟩ := minmax_ok (P := P) false (f := Builtin.min2) (fun _ _ _ _ => by simp [Builtin.min2]) hmm h3 w
      refine Sound1.pure hr (x := v) ?_ g2
      simp only [builtin, Builtin.min_, e1, Sem.run_bind, g1, Result.andThen_ok, Sem.run_pure]
    · cases ha
  · rw [exec_builtin ho hb]
    simp only [cOp, ho, hb, cBuiltin, Option.bind_eq_bind, Option.bind_eq_some_iff, Option.pure_def, Option.some.injEq] at hc
    obtain ⟨xs, hxs, rfl⟩ := hc
    simp only [aop] at ha
    split at ha
    · rename_i k x l hv
      simp only [Option.bind_eq_bind, Option.bind_eq_some_iff] at ha
      obtain ⟨v, hmm, ha⟩ := ha
      obtain ⟨rfl, rfl⟩ := val_eq ha
      have h1 := opds_vr he hxs hv
      simp only [vrL] at h1
      obtain ⟨y, ys, e1, h2, h3⟩ := h1
      have := vr_int h2
      subst this
      obtain ⟨g1, g2⟩ := minmax_ok (P := P) true (f := Builtin.max2) (fun _ _ _ _ => by simp [Builtin.max2]) hmm h3 w
      refine Sound1.pure hr (x := v) ?_ g2
      simp only [builtin, Builtin.max_, e1, Sem.run_bind, g1, Result.andThen_ok, Sem.run_pure]
    · cases ha

theorem s_recover (hr : Rel P ρ H w) {c : Call} (ho : o.op = .call c) (hb : c.callee = .builtin .recover) (hc : cOp P o = some io) (ha : aop io ev' H = some (r, H')) :
    Sound1 P ρ H w r H' ((execOp ev o).run P w) := by
  rw [exec_builtin ho hb]
  simp only [cOp, ho, hb, cBuiltin, Option.some.injEq] at hc
  subst hc
  simp only [aop, Option.some.injEq, Prod.mk.injEq] at ha
  obtain ⟨rfl, rfl⟩ := ha
  exact ⟨ρ, w, Ext.refl hr, by simp [outR, builtin]⟩

theorem s_mapDel (hr : Rel P ρ H w) (he : evR ρ ev ev') {c : Call} (ho : o.op = .call c) (hb : c.callee = .builtin .delete) (hc : cOp P o = some io) (ha : aop io ev' H = some (r, H')) :
    Sound1 P ρ H w r H' ((execOp ev o).run P w) := by
  rw [exec_builtin ho hb]
  simp only [cOp, ho, hb, cBuiltin] at hc
  split at hc
  rotate_left
  · cases hc
  rename_i t m k hh
  simp only [Prod.mk.injEq] at hh
  obtain ⟨hT0, hA0, hA1⟩ := hh
  have hA0' : (c.args.map ev)[0]? = some (ev m) := by simp [hA0]
  have hA1' : (c.args.map ev)[1]? = some (ev k) := by simp [hA1]
  split at hc
  rotate_left
  · cases hc
  rename_i key elem hu
  simp only [Option.bind_eq_bind, Option.bind_eq_some_iff, Option.pure_def, Option.some.injEq] at hc
  obtain ⟨kk, hkk, m1, hm1, k1, hk1, rfl⟩ := hc
  obtain ⟨d, hd, hkd⟩ := keyKind_spec hkk
  have hvt : vr ρ (.tuple #[]) (.tuple #[]) := by simp only [vr]; exact ⟨_, rfl, by simp only [vrA, vrL]⟩
  simp only [aop] at ha
  split at ha
  · rename_i kv hv1 hv2
    split at ha
    · obtain ⟨rfl, rfl⟩ := val_eq ha
      have h1 := he _ _ _ hm1 hv1
      simp only [vr] at h1
      refine Sound1.pure hr (x := .tuple #[]) ?_ hvt
      simp only [builtin, Builtin.delete_, hT0, hA0', hA1', Sem.run_bind, run_underlying' hu, Result.andThen_ok, h1, checkKey_run hd hkd, Sem.run_pure]
    · cases ha
  · rename_i b kv hv1 hv2
    have h1 := he _ _ _ hm1 hv1
    have h2 := he _ _ _ hk1 hv2
    simp only [vr] at h1
    obtain ⟨p, hp, e1⟩ := h1
    split at ha
    · rename_i es clock hg
      obtain ⟨_, _, ces, hh, hmr⟩ := hr.obj _ p _ hp hg
      have hget : (getObj p.B).run P w = .ok (.map ces clock) w := by simp [getObj, Sem.run, hh]
      split at ha
      · rename_i j x hfk
        split at hfk
        rotate_left
        · cases hfk
        obtain ⟨rfl, rfl⟩ := val_eq ha
        rcases findNow_ok hkd h2 hfk hmr with ⟨hq, _⟩ | ⟨j', v0, x', e, hq, hfn, _⟩
        · cases hq
        · simp only [Option.some.injEq, Prod.mk.injEq] at hq
          obtain ⟨rfl, rfl⟩ := hq
          have hmr' := mapR_erase j hmr
          obtain ⟨hset, hext⟩ := hr.setMap (es' := es.eraseIdx j) (c' := clock) (l := ces.eraseIdxIfInBounds j) hp hg (by simpa using hmr')
          refine ⟨ρ, _, hext, .tuple #[], ?_, hvt⟩
          simp only [builtin, Builtin.delete_, hT0, hA0', hA1', Sem.run_bind, run_underlying' hu, Result.andThen_ok, e1, hget, checkKey_run hd hkd, findKey_run (kk := kk) hd hfn, Sem.run_pure, hset]
      · rename_i hfk
        split at hfk
        rotate_left
        · cases hfk
        obtain ⟨rfl, rfl⟩ := val_eq ha
        rcases findNow_ok hkd h2 hfk hmr with ⟨_, hfn⟩ | ⟨j', v0, x', e, hq, _⟩
        · have hset : (setObj p.B (.map ces clock)).run P w = .ok () w := by
            have := (hr.setMap (c' := clock) hp hg hmr).1
            rw [putObj_self hh] at this
            exact this
          refine Sound1.pure hr (x := .tuple #[]) ?_ hvt
          simp only [builtin, Builtin.delete_, hT0, hA0', hA1', Sem.run_bind, run_underlying' hu, Result.andThen_ok, e1, hget, checkKey_run hd hkd, findKey_run (kk := kk) hd hfn, Sem.run_pure, hset]
        · cases hq
      · cases ha
    · cases ha
  · cases ha

end Go.Abs
