/-
  ABS, part I: each operation of the abstract machine is what the model does (four: arithmetic, slices, fields). (Own work.)
-/
import Derived.Test.YtohipgnacknkgabGreatHgH
set_option linter.unusedSimpArgs false
set_option linter.unusedVariables false
namespace Go.Abs
open Go

variable {P : Program}
variable {ρ : Rho} {H H' : AHeap} {w : World} {r : AR} {o : Oper} {io : IOp} {ev : Operand → Value} {ev' : Operand → Option Value}

theorem run_ibin {op : BinOp} {k : IntKind} {a b : Int} {v : Value} {t : TypeId} (h : ibin op k a b = some v) : (binOp op t (.int k a) (.int k b)).run P w = .ok v w := by
  cases op <;> simp only [ibin, Option.some.injEq, reduceCtorEq] at h <;> try (subst h; simp [binOp, Op.intArith, Op.intBits, Op.intCmp]; done)
  · split at h
    · cases h
    · rename_i hb
      obtain rfl := Option.some.inj h
      simp [binOp, Op.intDiv, hb]
  · split at h
    · cases h
    · rename_i hb
      obtain rfl := Option.some.inj h
      simp [binOp, Op.intDiv, hb]

theorem ibin_flat {op : BinOp} {k : IntKind} {a b : Int} {v : Value} (h : ibin op k a b = some v) : flat v = true := by
  cases op <;> simp only [ibin, Option.some.injEq, reduceCtorEq] at h <;> first
    | (subst h; rfl)
    | (split at h <;> first | (cases h; done) | (obtain rfl := Option.some.inj h; rfl))

theorem sbin_flat {op : BinOp} {a b : ByteArray} {v : Value} (h : sbin op a b = some v) : flat v = true := by
  cases op <;> simp only [sbin, Option.some.injEq, reduceCtorEq] at h <;> first
    | (subst h; rfl)
    | (split at h <;> first | (cases h; done) | (obtain rfl := Option.some.inj h; rfl))

theorem run_sbin {op : BinOp} {a b : ByteArray} {v : Value} {t : TypeId} (h : sbin op a b = some v) : (binOp op t (.string a) (.string b)).run P w = .ok v w := by
  cases op <;> simp only [sbin, Option.some.injEq, reduceCtorEq] at h
  · split at h
    · rename_i hm
      obtain rfl := Option.some.inj h
      simp only [mem] at hm
      have : ¬ (((a.size + b.size : Nat) : Int) > IntKind.i64.max) := by
        simp [IntKind.max, IntKind.signed, IntKind.bits]
        omega
      simp only [binOp, Op.stringOp, if_neg this, Sem.run_pure]
    · cases h
  · subst h; simp [binOp, Op.stringOp, ByteArray.toList_eq]
  · subst h; simp [binOp, Op.stringOp, ByteArray.toList_eq]

def notNum : Value → Bool
  | .int _ _ | .float _ _ | .complex _ _ _ | .string _ => false
  | _ => true

theorem run_eql {x y : Value} {t : TypeId} (h : notNum x = true) : (binOp .eql t x y).run P w = ((Op.equal t x y).run P w).andThen fun b w => .ok (.bool b) w := by
  cases x <;> simp [notNum] at h <;> simp [binOp]
theorem run_neq {x y : Value} {t : TypeId} (h : notNum x = true) : (binOp .neq t x y).run P w = ((Op.equal t x y).run P w).andThen fun b w => .ok (.bool (!b)) w := by
  cases x <;> simp [notNum] at h <;> simp [binOp]

theorem vr_notNum {v x : Value} (h : vr ρ v x) : notNum x = notNum v := by
  cases v with
  | pointer a => cases a <;> simp only [vr] at h <;> first | (obtain ⟨_, rfl, _⟩ := h; rfl) | (subst h; rfl)
  | map a => cases a <;> simp only [vr] at h <;> first | (obtain ⟨_, _, rfl⟩ := h; rfl) | (subst h; rfl)
  | slice a l c =>
    cases a with
    | none => simp only [vr] at h; subst h; rfl
    | some a => obtain ⟨_, _, rfl⟩ := vr_slice h; rfl
  | chan a => simp only [vr] at h
  | func f a b => simp only [vr] at h; obtain ⟨_, _, _, rfl, _⟩ := h; rfl
  | iface t y => simp only [vr] at h; obtain ⟨_, rfl, _⟩ := h; rfl
  | agg cs => simp only [vr] at h; obtain ⟨_, rfl, _⟩ := h; rfl
  | tuple cs => simp only [vr] at h; obtain ⟨_, rfl, _⟩ := h; rfl
  | _ => simp only [vr] at h; subst h; rfl

/-- How vbin goes. -/
theorem vbin_cases {op : BinOp} {e : ETy} {x y v : Value} (h : vbin op e x y = some v) :
    (∃ k a k' b, x = .int k a ∧ y = .int k' b ∧ (op = .shl ∨ op = .shr) ∧ ishift op k a b = some v) ∨
    (∃ k a b, x = .int k a ∧ y = .int k b ∧ ibin op k a b = some v) ∨
    (∃ a b, x = .string a ∧ y = .string b ∧ sbin op a b = some v) ∨
    (op = .eql ∧ ∃ b, aEq e x y = some b ∧ v = .bool b ∧ (∀ k a k' c, x = .int k a → y = .int k' c → False) ∧ (∀ a c, x = .string a → y = .string c → False)) ∨
    (op = .neq ∧ ∃ b, aEq e x y = some b ∧ v = .bool (!b) ∧ (∀ k a k' c, x = .int k a → y = .int k' c → False) ∧ (∀ a c, x = .string a → y = .string c → False)) := by
  unfold vbin at h
  split at h
  · exact .inl ⟨_, _, _, _, rfl, rfl, .inl rfl, h⟩
  · exact .inl ⟨_, _, _, _, rfl, rfl, .inr rfl, h⟩
  · split at h
    · rename_i hk
      subst hk
      exact .inr (.inl ⟨_, _, _, rfl, rfl, h⟩)
    · cases h
  · cases h
  · cases h
  · exact .inr (.inr (.inl ⟨_, _, rfl, rfl, h⟩))
  · rename_i h1 h2 h3 h4 h5 h6
    obtain ⟨b, hb, rfl⟩ := Option.map_eq_some_iff.1 h
    exact .inr (.inr (.inr (.inl ⟨rfl, b, (aEqK_ok _).1 _ _ _ _ hb, rfl, fun k a k' c e1 e2 => by first | exact h1 _ _ _ _ e1 e2 | exact h2 _ _ _ _ e1 e2 | exact h3 _ _ _ _ e1 e2 | exact h4 _ _ _ _ e1 e2 | exact h5 _ _ _ _ e1 e2 | exact h6 _ _ _ _ e1 e2, fun a c e1 e2 => by first | exact h1 _ _ e1 e2 | exact h2 _ _ e1 e2 | exact h3 _ _ e1 e2 | exact h4 _ _ e1 e2 | exact h5 _ _ e1 e2 | exact h6 _ _ e1 e2⟩)))
  · rename_i h1 h2 h3 h4 h5 h6
    obtain ⟨b, hb, rfl⟩ := Option.map_eq_some_iff.1 h
    exact .inr (.inr (.inr (.inr ⟨rfl, b, (aEqK_ok _).1 _ _ _ _ hb, rfl, fun k a k' c e1 e2 => by first | exact h1 _ _ _ _ e1 e2 | exact h2 _ _ _ _ e1 e2 | exact h3 _ _ _ _ e1 e2 | exact h4 _ _ _ _ e1 e2 | exact h5 _ _ _ _ e1 e2 | exact h6 _ _ _ _ e1 e2, fun a c e1 e2 => by first | exact h1 _ _ e1 e2 | exact h2 _ _ e1 e2 | exact h3 _ _ e1 e2 | exact h4 _ _ e1 e2 | exact h5 _ _ e1 e2 | exact h6 _ _ e1 e2⟩)))
  · cases h

theorem aEq_notNum {e : ETy} {x y : Value} {b : Bool} (h : aEq e x y = some b) (h1 : ∀ k a k' c, x = .int k a → y = .int k' c → False) (h2 : ∀ a c, x = .string a → y = .string c → False) : notNum x = true := by
  cases e with
  | int => obtain ⟨k, a, c, rfl, rfl, _⟩ := aEq_int h; exact (h1 _ _ _ _ rfl rfl).elim
  | str => obtain ⟨a, c, rfl, rfl, _⟩ := aEq_str h; exact (h2 _ _ rfl rfl).elim
  | bool => obtain ⟨a, c, rfl, rfl, _⟩ := aEq_bool h; rfl
  | struct fs => obtain ⟨a, c, rfl, rfl, _⟩ := aEq_struct h; rfl
  | arr n s e => obtain ⟨a, c, rfl, rfl, _⟩ := aEq_arr h; rfl
  | nilP => rcases aEq_nilP h with ⟨rfl, _⟩ | ⟨_, rfl, _⟩ <;> rfl
  | nilS => rcases aEq_nilS h with ⟨_, _, rfl, _⟩ | ⟨_, _, _, _, _, rfl, _⟩ <;> rfl
  | nilM => rcases aEq_nilM h with ⟨rfl, _⟩ | ⟨_, rfl, _⟩ <;> rfl
  | nilF => rcases aEq_nilF h with ⟨rfl, _⟩ | ⟨rfl, _⟩ | ⟨⟨_, _, _, rfl⟩, _⟩ <;> rfl
  | nilI => rcases aEq_nilI h with ⟨rfl, _⟩ | ⟨rfl, _⟩ | ⟨⟨_, _, rfl⟩, _⟩ <;> rfl

/-- The guard that the model sets before two values of one type are held against one another lets through what the abstract machine takes. -/
theorem run_guard {op : BinOp} {e : ETy} {t : TypeId} {x y : Operand} {u v u' v' : Value} {b : Bool}
    (hg : guardB P e t x y = false) (hb : aEq e u v = some b) (hu : vr ρ u u') (hv : vr ρ v v') (h1 : notNum u = true) :
    (eqGuard op t x y u' v').run P w = .ok () w := by
  unfold guardB at hg
  unfold eqGuard
  by_cases hop : (!(match op with | .eql | .neq => true | _ => false)) = true
  · cases op <;> simp at hop ⊢
  · cases e with
    | int => obtain ⟨k, a, c, rfl, rfl, _⟩ := aEq_int hb; simp [notNum] at h1
    | str => obtain ⟨a, c, rfl, rfl, _⟩ := aEq_str hb; simp [notNum] at h1
    | bool =>
      obtain ⟨a, c, rfl, rfl, _⟩ := aEq_bool hb
      rw [vr_bool hu, vr_bool hv]
      cases op <;> simp
    | struct fs =>
      obtain ⟨a, c, rfl, rfl, _⟩ := aEq_struct hb
      simp only [vr] at hu hv
      obtain ⟨_, rfl, _⟩ := hu
      obtain ⟨_, rfl, _⟩ := hv
      cases op <;> simp [hg]
    | arr n s e =>
      obtain ⟨a, c, rfl, rfl, _⟩ := aEq_arr hb
      simp only [vr] at hu hv
      obtain ⟨_, rfl, _⟩ := hu
      obtain ⟨_, rfl, _⟩ := hv
      cases op <;> simp [hg]
    | nilP =>
      rcases aEq_nilP hb with ⟨rfl, q, rfl, _⟩ | ⟨_, rfl, rfl, _⟩ <;> simp only [vr] at hu
      · subst hu; cases op <;> simp
      · obtain ⟨_, rfl, _⟩ := hu; cases op <;> simp
    | nilS =>
      rcases aEq_nilS hb with ⟨_, _, rfl, _⟩ | ⟨_, _, _, _, _, rfl, _⟩
      · simp only [vr] at hu; subst hu; cases op <;> simp
      · obtain ⟨_, _, rfl⟩ := vr_slice hu; cases op <;> simp
    | nilM =>
      rcases aEq_nilM hb with ⟨rfl, q, rfl, _⟩ | ⟨_, rfl, rfl, _⟩ <;> simp only [vr] at hu
      · subst hu; cases op <;> simp
      · obtain ⟨_, _, rfl⟩ := hu; cases op <;> simp
    | nilF =>
      rcases aEq_nilF hb with ⟨rfl, _⟩ | ⟨rfl, _⟩ | ⟨⟨_, _, _, rfl⟩, _⟩ <;> simp only [vr] at hu
      · subst hu; cases op <;> simp
      · subst hu; cases op <;> simp
      · obtain ⟨_, _, _, rfl, _⟩ := hu; cases op <;> simp
    | nilI =>
      simp only [Bool.not_eq_false', Bool.or_eq_true] at hg
      rcases aEq_nilI hb with ⟨rfl, rfl, _⟩ | ⟨rfl, ⟨_, _, rfl⟩, _⟩ | ⟨⟨_, _, rfl⟩, rfl, _⟩ <;> simp only [vr] at hu hv
      · subst hu; subst hv
        rcases hg with h | h
        · cases x <;> simp [isConst] at h
          cases op <;> simp
        · cases y <;> simp [isConst] at h
          cases op <;> simp
      · obtain ⟨_, rfl, _⟩ := hv; subst hu; cases op <;> simp
      · obtain ⟨_, rfl, _⟩ := hu; subst hv; cases op <;> simp

theorem s_bin (hr : Rel P ρ H w) (he : evR ρ ev ev') {op : BinOp} {t yt : TypeId} {x y : Operand} (ho : o.op = .binOp op t x y yt) (hc : cOp P o = some io) (ha : aop io ev' H = some (r, H')) :
    Sound1 P ρ H w r H' ((execOp ev o).run P w) := by
  have key : ∀ (e : ETy) (x' y' : Operand), io = .bin op e x' y' → cOpd x = some x' → cOpd y = some y' →
      ((op = .eql ∨ op = .neq) → ety P 20 t = some e ∧ guardB P e t x y = false) → Sound1 P ρ H w r H' ((execOp ev o).run P w) := by
    intro e x' y' hio hx' hy' hq
    subst hio
    simp only [aop] at ha
    split at ha
    · rename_i a b hv1 hv2
      simp only [Option.bind_eq_bind, Option.bind_eq_some_iff] at ha
      obtain ⟨v, hv, ha⟩ := ha
      obtain ⟨rfl, rfl⟩ := val_eq ha
      have h1 := he _ _ _ hx' hv1
      have h2 := he _ _ _ hy' hv2
      have hgn : ∀ k a k' b, (eqGuard op t x y (.int k a) (.int k' b)).run P w = .ok () w := by
        intro k a k' b
        cases op <;> simp [eqGuard]
      have hgs : ∀ a b, (eqGuard op t x y (.string a) (.string b)).run P w = .ok () w := by
        intro a b
        cases op <;> simp [eqGuard]
      rcases vbin_cases hv with ⟨k, a', k', b', rfl, rfl, hop, hs⟩ | ⟨k, a', b', rfl, rfl, hs⟩ | ⟨a', b', rfl, rfl, hs⟩ | ⟨rfl, c, hb, rfl, hn1, hn2⟩ | ⟨rfl, c, hb, rfl, hn1, hn2⟩
      · unfold ishift at hs
        split at hs
        · cases hs
        · rename_i hneg
          rcases hop with rfl | rfl <;> simp only [Option.some.injEq] at hs <;> subst hs
          · refine Sound1.pure hr (x := .int k (k.wrap (a' * 2 ^ min b'.toNat k.bits))) ?_ (by simp only [vr])
            simp only [execOp, ho, Sem.run_bind, vr_int h1, vr_int h2, hgn, Result.andThen_ok, binOp, Op.shift, if_neg hneg, Sem.run_pure]
          · refine Sound1.pure hr (x := .int k (a'.fdiv (2 ^ min b'.toNat k.bits))) ?_ (by simp only [vr])
            simp only [execOp, ho, Sem.run_bind, vr_int h1, vr_int h2, hgn, Result.andThen_ok, binOp, Op.shift, if_neg hneg, Sem.run_pure]
      · refine Sound1.pure hr (x := v) ?_ (flat_vr ρ _ (ibin_flat hs))
        simp only [execOp, ho, Sem.run_bind, vr_int h1, vr_int h2, hgn, Result.andThen_ok, run_ibin hs, Sem.run_pure]
      · refine Sound1.pure hr (x := v) ?_ (flat_vr ρ _ (sbin_flat hs))
        simp only [execOp, ho, Sem.run_bind, vr_str h1, vr_str h2, hgs, Result.andThen_ok, run_sbin hs, Sem.run_pure]
      · have hnn := aEq_notNum hb hn1 hn2
        obtain ⟨hety, hgd⟩ := hq (.inl rfl)
        refine Sound1.pure hr (x := .bool c) ?_ (by simp only [vr])
        simp only [execOp, ho, Sem.run_bind, run_guard hgd hb h1 h2 hnn, Result.andThen_ok, run_eql ((vr_notNum h1).trans hnn), Op.equal, Op.maxDepth, ety_facts 20 t e hety _ _ _ _ _ 10000 w (by omega) hb h1 h2, Sem.run_pure]
      · have hnn := aEq_notNum hb hn1 hn2
        obtain ⟨hety, hgd⟩ := hq (.inr rfl)
        refine Sound1.pure hr (x := .bool (!c)) ?_ (by simp only [vr])
        simp only [execOp, ho, Sem.run_bind, run_guard hgd hb h1 h2 hnn, Result.andThen_ok, run_neq ((vr_notNum h1).trans hnn), Op.equal, Op.maxDepth, ety_facts 20 t e hety _ _ _ _ _ 10000 w (by omega) hb h1 h2, Sem.run_pure]
    · cases ha
  simp only [cOp, ho] at hc
  split at hc
  · simp only [Option.bind_eq_bind, Option.bind_eq_some_iff] at hc
    obtain ⟨e, hety, hc⟩ := hc
    split at hc
    · cases hc
    · rename_i hg
      simp only [Option.bind_eq_some_iff, Option.pure_def, Option.some.injEq] at hc
      obtain ⟨x', hx', y', hy', rfl⟩ := hc
      exact key e x' y' rfl hx' hy' fun _ => ⟨hety, by simpa using hg⟩
  · simp only [Option.bind_eq_bind, Option.bind_eq_some_iff] at hc
    obtain ⟨e, hety, hc⟩ := hc
    split at hc
    · cases hc
    · rename_i hg
      simp only [Option.bind_eq_some_iff, Option.pure_def, Option.some.injEq] at hc
      obtain ⟨x', hx', y', hy', rfl⟩ := hc
      exact key e x' y' rfl hx' hy' fun _ => ⟨hety, by simpa using hg⟩
  · rename_i hn1 hn2
    simp only [Option.bind_eq_bind, Option.bind_eq_some_iff, Option.pure_def, Option.some.injEq] at hc
    obtain ⟨x', hx', y', hy', rfl⟩ := hc
    exact key .int x' y' rfl hx' hy' fun h => (h.elim hn1 hn2).elim

end Go.Abs
