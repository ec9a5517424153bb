/-
  ABS, part H: each operation of the abstract machine is what the model does (three: arithmetic, slices). (Own work.)
-/
import Derived.Test.YtohipgnacknkgabGreatHgG
set_option linter.unusedSimpArgs false
set_option linter.unusedVariables false
namespace Go.Abs
open Go

variable {P : Program}
variable {ρ : Rho} {H H' : AHeap} {w : World} {r : AR} {o : Oper} {io : IOp} {ev : Operand → Value} {ev' : Operand → Option Value}

/-! ### Equality -/
theorem part_ok {t : TypeId} {g : Bool} {s : Nat} (hg : tagg P t = some g) (hs : tsize P t = some s) {cs : List Value} {ds : Array Value} (hr : vrL ρ cs ds.toList) {off : Nat} {v : Value} (hv : partL g cs off s = some v) :
    ∃ x, (part t ds off).run P w = .ok x w ∧ vr ρ v x := by
  cases g with
  | true =>
    simp only [partL, if_true, Option.some.injEq] at hv
    subst hv
    refine ⟨.agg (ds.extract off (off + s)), by simp [part, run_isAgg' hg, run_sizeOf' hs], ?_⟩
    simp only [vr]
    refine ⟨_, rfl, vrA_iff.2 ?_⟩
    have := vrL_take s (vrL_drop off hr)
    simpa [List.take_drop, Nat.add_comm] using this
  | false =>
    simp only [partL, Bool.false_eq_true, if_false] at hv
    obtain ⟨x, hx, hxr⟩ := vrL_get hr hv
    have hx' : ds[off]? = some x := by simpa using hx
    exact ⟨x, by simp [part, run_isAgg' hg, hx'], hxr⟩

theorem run_equalIn_arr (d : Nat) (t : TypeId) (len : Nat) (elem : TypeId) (s : Nat) (xs ys : Array Value) (ht : P.underlying t = some (.array len elem)) (hs : tsize P elem = some s) :
    (Op.equalIn (d + 1) t (.agg xs) (.agg ys)).run P w =
      (((List.range' 0 len).foldr (fun i (k : Sem Bool) => do
        let a ← part elem xs (i * s)
        let b ← part elem ys (i * s)
        let r ← Op.equalIn d elem a b
        if (!r) = true then Pure.pure false else k) (Pure.pure true : Sem Bool)).run P w) := by
  simp only [Op.equalIn, Sem.run_bind, run_underlying' ht, Result.andThen_ok, run_sizeOf' hs]
  rw [Std.Legacy.Range.forIn_eq_forIn_range']
  simp only [Std.Legacy.Range.size, Nat.sub_zero, Nat.add_sub_cancel, Nat.div_one]
  clear ht
  generalize 0 = k
  induction len generalizing k w with
  | zero => simp
  | succ n ih =>
    simp only [List.range'_succ, List.forIn_cons, List.foldr_cons, Sem.run_bind]
    generalize (part elem xs (k * s)).run P w = r1
    cases r1 with
    | ok a w1 =>
      simp only [Result.andThen_ok]
      generalize (part elem ys (k * s)).run P w1 = r2
      cases r2 with
      | ok b w2 =>
        simp only [Result.andThen_ok]
        generalize (Op.equalIn d elem a b).run P w2 = r3
        cases r3 with
        | ok r w3 =>
          cases r
          · simp
          · simp only [Result.andThen_ok, Bool.not_true, Bool.false_eq_true, if_false, Sem.run_pure]
            exact ih _
        | halt x w3 => simp [Result.andThen]
      | halt x w2 => simp [Result.andThen]
    | halt x w1 => simp [Result.andThen]


theorem vr_int {ρ : Rho} {k : IntKind} {n : Int} {v : Value} (h : vr ρ (.int k n) v) : v = .int k n := by simpa only [vr] using h
theorem vr_str {ρ : Rho} {s : ByteArray} {v : Value} (h : vr ρ (.string s) v) : v = .string s := by simpa only [vr] using h
theorem vr_bool {ρ : Rho} {b : Bool} {v : Value} (h : vr ρ (.bool b) v) : v = .bool b := by simpa only [vr] using h

theorem vr_slice {ρ : Rho} {a : Addr} {l c : Nat} {v : Value} (h : vr ρ (.slice (some a) l c) v) : ∃ x c', v = .slice (some x) l c' := by
  simp only [vr, slr] at h
  obtain ⟨_, p, _, h⟩ := h
  rcases h with ⟨_, _, h⟩ | ⟨_, _, _, _, _, h⟩ | ⟨_, h0, x, h⟩
  · exact ⟨_, _, h⟩
  · exact ⟨_, _, h⟩
  · subst h0; exact ⟨_, _, h⟩

theorem aEq_int {x y : Value} {b : Bool} (h : aEq .int x y = some b) : ∃ k a c, x = .int k a ∧ y = .int k c ∧ b = (a == c) := by
  cases x <;> cases y <;> simp only [aEq, reduceCtorEq] at h
  rename_i k a k' c
  split at h
  · rename_i e; subst e; exact ⟨k, a, c, rfl, rfl, by simpa using h.symm⟩
  · cases h
theorem aEq_str {x y : Value} {b : Bool} (h : aEq .str x y = some b) : ∃ a c, x = .string a ∧ y = .string c ∧ b = (a == c) := by
  cases x <;> cases y <;> simp only [aEq, reduceCtorEq] at h
  exact ⟨_, _, rfl, rfl, by simpa using h.symm⟩
theorem aEq_bool {x y : Value} {b : Bool} (h : aEq .bool x y = some b) : ∃ a c, x = .bool a ∧ y = .bool c ∧ b = (a == c) := by
  cases x <;> cases y <;> simp only [aEq, reduceCtorEq] at h
  exact ⟨_, _, rfl, rfl, by simpa using h.symm⟩
theorem aEq_struct {l : List (Nat × Nat × ETy)} {x y : Value} {b : Bool} (h : aEq (.struct l) x y = some b) : ∃ xs ys, x = .agg xs ∧ y = .agg ys ∧ aEqF l xs.toList ys.toList = some b := by
  cases x <;> cases y <;> simp only [aEq, reduceCtorEq] at h
  exact ⟨_, _, rfl, rfl, h⟩
theorem aEq_arr {n s : Nat} {e : ETy} {x y : Value} {b : Bool} (h : aEq (.arr n s e) x y = some b) : ∃ xs ys, x = .agg xs ∧ y = .agg ys ∧ aEqA n s e xs.toList ys.toList 0 = some b := by
  cases x <;> cases y <;> simp only [aEq, reduceCtorEq] at h
  exact ⟨_, _, rfl, rfl, h⟩
theorem aEq_nilP {x y : Value} {b : Bool} (h : aEq .nilP x y = some b) : (x = .pointer none ∧ ∃ q, y = .pointer q ∧ b = q.isNone) ∨ (∃ a, x = .pointer (some a) ∧ y = .pointer none ∧ b = false) := by
  cases x with
  | pointer q => cases q <;> cases y <;> (try simp only [aEq, reduceCtorEq, Option.some.injEq] at h)
                 · exact .inl ⟨rfl, _, rfl, h.symm⟩
                 · rename_i a q; cases q <;> simp only [aEq, reduceCtorEq, Option.some.injEq] at h; exact .inr ⟨_, rfl, rfl, h.symm⟩
  | _ => simp only [aEq, reduceCtorEq] at h
theorem aEq_nilS {x y : Value} {b : Bool} (h : aEq .nilS x y = some b) : (∃ l c, x = .slice none l c ∧ ∃ q l' c', y = .slice q l' c' ∧ b = q.isNone) ∨ (∃ a l c l' c', x = .slice (some a) l c ∧ y = .slice none l' c' ∧ b = false) := by
  cases x with
  | slice q l c => cases q <;> cases y <;> (try simp only [aEq, reduceCtorEq, Option.some.injEq] at h)
                   · exact .inl ⟨_, _, rfl, _, _, _, rfl, h.symm⟩
                   · rename_i a q l' c'; cases q <;> simp only [aEq, reduceCtorEq, Option.some.injEq] at h; exact .inr ⟨_, _, _, _, _, rfl, rfl, h.symm⟩
  | _ => simp only [aEq, reduceCtorEq] at h
theorem aEq_nilM {x y : Value} {b : Bool} (h : aEq .nilM x y = some b) : (x = .map none ∧ ∃ q, y = .map q ∧ b = q.isNone) ∨ (∃ a, x = .map (some a) ∧ y = .map none ∧ b = false) := by
  cases x with
  | map q => cases q <;> cases y <;> (try simp only [aEq, reduceCtorEq, Option.some.injEq] at h)
             · exact .inl ⟨rfl, _, rfl, h.symm⟩
             · rename_i a q; cases q <;> simp only [aEq, reduceCtorEq, Option.some.injEq] at h; exact .inr ⟨_, rfl, rfl, h.symm⟩
  | _ => simp only [aEq, reduceCtorEq] at h
theorem aEq_nilF {x y : Value} {b : Bool} (h : aEq .nilF x y = some b) : (x = .nilFunc ∧ y = .nilFunc ∧ b = true) ∨ (x = .nilFunc ∧ (∃ f p q, y = .func f p q) ∧ b = false) ∨ ((∃ f p q, x = .func f p q) ∧ y = .nilFunc ∧ b = false) := by
  cases x <;> cases y <;> simp only [aEq, reduceCtorEq, Option.some.injEq] at h
  · exact .inr (.inr ⟨⟨_, _, _, rfl⟩, rfl, h.symm⟩)
  · exact .inr (.inl ⟨rfl, ⟨_, _, _, rfl⟩, h.symm⟩)
  · exact .inl ⟨rfl, rfl, h.symm⟩
theorem aEq_nilI {x y : Value} {b : Bool} (h : aEq .nilI x y = some b) : (x = .nilIface ∧ y = .nilIface ∧ b = true) ∨ (x = .nilIface ∧ (∃ f p, y = .iface f p) ∧ b = false) ∨ ((∃ f p, x = .iface f p) ∧ y = .nilIface ∧ b = false) := by
  cases x <;> cases y <;> simp only [aEq, reduceCtorEq, Option.some.injEq] at h
  · exact .inr (.inr ⟨⟨_, _, rfl⟩, rfl, h.symm⟩)
  · exact .inr (.inl ⟨rfl, ⟨_, _, rfl⟩, h.symm⟩)
  · exact .inl ⟨rfl, rfl, h.symm⟩

theorem ety_facts : ∀ (n : Nat) (t : TypeId) (e : ETy), ety P n t = some e →
    (∀ (x y x' y' : Value) (b : Bool) (d : Nat) (w : World), n ≤ d → aEq e x y = some b → vr ρ x x' → vr ρ y y' → (Op.equalIn d t x' y').run P w = .ok b w) := by
  intro n
  induction n with
  | zero => intro t e h; simp [ety] at h
  | succ n IH =>
    intro t e h x y x' y' b d w hd hq hx hy
    obtain ⟨d, rfl⟩ : ∃ k, d = k + 1 := ⟨d - 1, by omega⟩
    simp only [ety] at h
    split at h
    · rename_i hu
      obtain rfl := Option.some.inj h
      obtain ⟨a, c, rfl, rfl, rfl⟩ := aEq_bool hq
      rw [vr_bool hx, vr_bool hy]
      simp [Op.equalIn, run_underlying' hu]
    · rename_i k hu
      obtain rfl := Option.some.inj h
      obtain ⟨k', a, c, rfl, rfl, rfl⟩ := aEq_int hq
      rw [vr_int hx, vr_int hy]
      simp [Op.equalIn, run_underlying' hu]
    · rename_i hu
      obtain rfl := Option.some.inj h
      obtain ⟨a, c, rfl, rfl, rfl⟩ := aEq_str hq
      rw [vr_str hx, vr_str hy]
      simp [Op.equalIn, run_underlying' hu]
    · rename_i fs hu
      split at h
      · cases h
      · rename_i hst
        simp only [Option.bind_eq_bind, Option.bind_eq_some_iff, Option.pure_def, Option.some.injEq] at h
        obtain ⟨l, hl, rfl⟩ := h
        have hag := aEq_struct hq
        obtain ⟨xs, ys, rfl, rfl, hq'⟩ := hag
        simp only [vr] at hx hy
        obtain ⟨us, rfl, hxs⟩ := hx
        obtain ⟨vs, rfl, hys⟩ := hy
        have hfo : P.fieldsOf t = fs := by simp [Program.fieldsOf, hu]
        rw [run_equalIn_struct w d t us vs (by rw [hfo]; exact hu) (by simpa using hst), hfo]
        clear hfo hu hq
        generalize fs.toList = fl at hl
        have hxs' := vrA_iff.1 hxs
        have hys' := vrA_iff.1 hys
        clear hst
        induction fl generalizing l with
        | nil =>
          simp at hl
          subst hl
          simp only [aEqF, Option.some.injEq] at hq'
          subst hq'
          simp [Op.eqFields]
        | cons f fl ih =>
          by_cases hb : f.name = "_"
          · rw [List.filter_cons_of_neg (by simp [hb])] at hl
            simp only [Op.eqFields, hb, ne_eq, not_true_eq_false, if_false]
            exact ih l hq' hl
          · rw [List.filter_cons_of_pos (by simp [hb])] at hl
            simp only [List.mapM_cons, Option.bind_eq_bind, Option.bind_eq_some_iff, Option.pure_def, Option.some.injEq] at hl
            obtain ⟨q, hq1, l', hl', rfl⟩ := hl
            obtain ⟨e, he, s, hs, g, hg, hq1⟩ := hq1
            split at hq1
            · rename_i hge
              obtain rfl := Option.some.inj hq1
              simp only [aEqF] at hq'
              split at hq'
              · rename_i a c ha hc
                rw [hge] at ha hc
                obtain ⟨a', ha', har⟩ := part_ok (w := w) hg hs hxs' ha
                obtain ⟨c', hc', hcr⟩ := part_ok (w := w) hg hs hys' hc
                simp only [Op.eqFields, hb, ne_eq, not_false_eq_true, if_true, Sem.run_bind, ha', hc', Result.andThen_ok]
                split at hq'
                · rename_i hh
                  rw [IH f.type e he a c a' c' true d w (by omega) hh har hcr]
                  simp only [Result.andThen_ok, Bool.not_true, Bool.false_eq_true, if_false]
                  exact ih l' hq' hl'
                · rename_i hh
                  rw [IH f.type e he a c a' c' false d w (by omega) hh har hcr]
                  simp only [Option.some.injEq] at hq'
                  subst hq'
                  simp
                · cases hq'
              · cases hq'
            · cases hq1
    · rename_i len elem hu
      simp only [Option.bind_eq_bind, Option.bind_eq_some_iff] at h
      obtain ⟨e', he', s, hs, g, hg, h⟩ := h
      split at h
      · rename_i hge
        obtain rfl := Option.some.inj h
        have hag := aEq_arr hq
        obtain ⟨xs, ys, rfl, rfl, hq'⟩ := hag
        simp only [vr] at hx hy
        obtain ⟨us, rfl, hxs⟩ := hx
        obtain ⟨vs, rfl, hys⟩ := hy
        rw [run_equalIn_arr d t len elem s us vs hu hs]
        have hxs' := vrA_iff.1 hxs
        have hys' := vrA_iff.1 hys
        clear hu hq h
        generalize 0 = k at hq' ⊢
        induction len generalizing k with
        | zero =>
          simp only [aEqA, Option.some.injEq] at hq'
          subst hq'
          simp
        | succ m ih =>
          simp only [aEqA] at hq'
          simp only [List.range'_succ, List.foldr_cons, Sem.run_bind]
          split at hq'
          · rename_i a c ha hc
            rw [hge] at ha hc
            obtain ⟨a', ha', har⟩ := part_ok (w := w) hg hs hxs' ha
            obtain ⟨c', hc', hcr⟩ := part_ok (w := w) hg hs hys' hc
            simp only [ha', hc', Result.andThen_ok]
            split at hq'
            · rename_i hh
              rw [IH elem e' he' a c a' c' true d w (by omega) hh har hcr]
              simp only [Result.andThen_ok, Bool.not_true, Bool.false_eq_true, if_false]
              exact ih (k + 1) hq'
            · rename_i hh
              rw [IH elem e' he' a c a' c' false d w (by omega) hh har hcr]
              simp only [Option.some.injEq] at hq'
              subst hq'
              simp
            · cases hq'
          · cases hq'
      · cases h
    · rename_i elem hu
      obtain rfl := Option.some.inj h
      rcases aEq_nilP hq with ⟨rfl, q, rfl, rfl⟩ | ⟨a, rfl, rfl, rfl⟩
      · simp only [vr] at hx
        subst hx
        cases q <;> simp only [vr] at hy
        · subst hy; simp [Op.equalIn, run_underlying' hu]
        · obtain ⟨_, rfl, _⟩ := hy; simp [Op.equalIn, run_underlying' hu]
      · simp only [vr] at hx hy
        subst hy
        obtain ⟨_, rfl, _⟩ := hx
        simp [Op.equalIn, run_underlying' hu]
    · rename_i elem hu
      obtain rfl := Option.some.inj h
      rcases aEq_nilS hq with ⟨l, c, rfl, q, l', c', rfl, rfl⟩ | ⟨a, l, c, l', c', rfl, rfl, rfl⟩
      · simp only [vr] at hx
        subst hx
        cases q
        · simp only [vr] at hy
          subst hy
          simp [Op.equalIn, run_underlying' hu]
        · obtain ⟨_, _, rfl⟩ := vr_slice hy
          simp [Op.equalIn, run_underlying' hu]
      · obtain ⟨_, _, rfl⟩ := vr_slice hx
        simp only [vr] at hy
        subst hy
        simp [Op.equalIn, run_underlying' hu]
    · rename_i k el hu
      obtain rfl := Option.some.inj h
      rcases aEq_nilM hq with ⟨rfl, q, rfl, rfl⟩ | ⟨a, rfl, rfl, rfl⟩
      · simp only [vr] at hx
        subst hx
        cases q <;> simp only [vr] at hy
        · subst hy; simp [Op.equalIn, run_underlying' hu]
        · obtain ⟨_, _, rfl⟩ := hy; simp [Op.equalIn, run_underlying' hu]
      · simp only [vr] at hx hy
        subst hy
        obtain ⟨_, _, rfl⟩ := hx
        simp [Op.equalIn, run_underlying' hu]
    · rename_i a b c hu
      obtain rfl := Option.some.inj h
      rcases aEq_nilF hq with ⟨rfl, rfl, rfl⟩ | ⟨rfl, ⟨_, _, _, rfl⟩, rfl⟩ | ⟨⟨_, _, _, rfl⟩, rfl, rfl⟩ <;> simp only [vr] at hx hy
      · subst hx; subst hy; simp [Op.equalIn, run_underlying' hu]
      · obtain ⟨_, _, _, rfl, _⟩ := hy; subst hx; simp [Op.equalIn, run_underlying' hu]
      · obtain ⟨_, _, _, rfl, _⟩ := hx; subst hy; simp [Op.equalIn, run_underlying' hu]
    · rename_i a hu
      obtain rfl := Option.some.inj h
      rcases aEq_nilI hq with ⟨rfl, rfl, rfl⟩ | ⟨rfl, ⟨_, _, rfl⟩, rfl⟩ | ⟨⟨_, _, rfl⟩, rfl, rfl⟩ <;> simp only [vr] at hx hy
      · subst hx; subst hy; simp [Op.equalIn, run_underlying' hu]
      · obtain ⟨_, rfl, _⟩ := hy; subst hx; simp [Op.equalIn, run_underlying' hu]
      · obtain ⟨_, rfl, _⟩ := hx; subst hy; simp [Op.equalIn, run_underlying' hu]
    · cases h

end Go.Abs
