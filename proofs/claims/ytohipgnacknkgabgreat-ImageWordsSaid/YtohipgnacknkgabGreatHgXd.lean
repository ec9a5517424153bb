/-
  ABS, part Xd: a call that answers a plain value and leaves the known blocks as they were: what it made is forgotten. (Own work.)
-/
import Derived.Test.YtohipgnacknkgabGreatHgXc
set_option linter.unusedSimpArgs false
set_option linter.unusedVariables false
namespace Go.Abs
open Go

variable {P : Program}

theorem fnr_back {ρ ρ' : Rho} (hle : ρ.le ρ') {a b c : Fn} (h : fnr ρ a b) (h' : fnr ρ' a c) : fnr ρ a c := by
  cases a <;> simp only [fnr] at * <;> try exact h'
  obtain ⟨p, hp, e⟩ := h
  obtain ⟨q, hq, e'⟩ := h'
  have := hle _ _ hp
  rw [this] at hq
  obtain rfl := Option.some.inj hq
  exact ⟨p, hp, e'⟩

theorem addrr_back {ρ ρ' : Rho} (hle : ρ.le ρ') {a b c : Addr} (h : addrr ρ a b) (h' : addrr ρ' a c) : addrr ρ a c := by
  obtain ⟨h1, p, hp, e⟩ := h
  obtain ⟨h2, q, hq, e'⟩ := h'
  have := hle _ _ hp
  rw [this] at hq
  obtain rfl := Option.some.inj hq
  exact ⟨h1, p, hp, e'⟩

theorem slr_back {ρ ρ' : Rho} (hle : ρ.le ρ') {a : Addr} {l c : Nat} {v u : Value} (h : slr ρ a l c v) (h' : slr ρ' a l c u) : slr ρ a l c u := by
  obtain ⟨h1, p, hp, e⟩ := h
  obtain ⟨h2, q, hq, e'⟩ := h'
  have := hle _ _ hp
  rw [this] at hq
  obtain rfl := Option.some.inj hq
  exact ⟨h1, p, hp, e'⟩

mutual
theorem vr_back {ρ ρ' : Rho} (hle : ρ.le ρ') : ∀ (x y z : Value), vr ρ x y → vr ρ' x z → vr ρ x z
  | .bool b, _, z, _, h | .int k n, _, z, _, h | .float k n, _, z, _, h | .complex k a b, _, z, _, h | .string s, _, z, _, h
  | .pointer none, _, z, _, h | .slice none _ _, _, z, _, h | .map none, _, z, _, h | .nilFunc, _, z, _, h | .nilIface, _, z, _, h => by simpa only [vr] using h
  | .pointer (some a), y, z, h, h' => by
    simp only [vr] at *
    obtain ⟨x, e, hx⟩ := h
    obtain ⟨x', e', hx'⟩ := h'
    exact ⟨x', e', addrr_back hle hx hx'⟩
  | .slice (some a) l c, y, z, h, h' => by simp only [vr] at *; exact slr_back hle h h'
  | .map (some b), y, z, h, h' => by
    simp only [vr] at *
    obtain ⟨p, hp, e⟩ := h
    obtain ⟨q, hq, e'⟩ := h'
    have := hle _ _ hp
    rw [this] at hq
    obtain rfl := Option.some.inj hq
    exact ⟨p, hp, e'⟩
  | .chan _, y, z, h, _ => by simp only [vr] at h
  | .func fn first captured, y, z, h, h' => by
    simp only [vr] at *
    obtain ⟨g, xs, ys, e, h1, h2, h3⟩ := h
    obtain ⟨g', xs', ys', e', h1', h2', h3'⟩ := h'
    exact ⟨g', xs', ys', e', fnr_back hle h1 h1', vrA_back hle _ _ _ h2 h2', vrA_back hle _ _ _ h3 h3'⟩
  | .iface t x, y, z, h, h' => by
    simp only [vr] at *
    obtain ⟨y, e, h1⟩ := h
    obtain ⟨y', e', h1'⟩ := h'
    exact ⟨y', e', vr_back hle _ _ _ h1 h1'⟩
  | .agg cs, y, z, h, h' => by
    simp only [vr] at *
    obtain ⟨y, e, h1⟩ := h
    obtain ⟨y', e', h1'⟩ := h'
    exact ⟨y', e', vrA_back hle _ _ _ h1 h1'⟩
  | .tuple cs, y, z, h, h' => by
    simp only [vr] at *
    obtain ⟨y, e, h1⟩ := h
    obtain ⟨y', e', h1'⟩ := h'
    exact ⟨y', e', vrA_back hle _ _ _ h1 h1'⟩
theorem vrA_back {ρ ρ' : Rho} (hle : ρ.le ρ') : ∀ (x y z : Array Value), vrA ρ x y → vrA ρ' x z → vrA ρ x z
  | ⟨l⟩, y, z, h, h' => by simp only [vrA] at *; exact vrL_back hle _ _ _ h h'
theorem vrL_back {ρ ρ' : Rho} (hle : ρ.le ρ') : ∀ (x y z : List Value), vrL ρ x y → vrL ρ' x z → vrL ρ x z
  | [], _, z, _, h => by simpa only [vrL] using h
  | x :: xs, y, z, h, h' => by
    simp only [vrL] at *
    obtain ⟨a, as, e, h1, h2⟩ := h
    obtain ⟨b, bs, e', h1', h2'⟩ := h'
    exact ⟨b, bs, e', vr_back hle _ _ _ h1 h1', vrL_back hle _ _ _ h2 h2'⟩
end

theorem mapR_back {ρ ρ' : Rho} (hle : ρ.le ρ') : ∀ {es : List (Value × Value × Nat)} {l m : List MapEntry}, mapR ρ es l → mapR ρ' es m → mapR ρ es m
  | [], _, _, _, h => h
  | (_, _, _) :: _, _, _, ⟨_, _, _, h2, h3, _, h5⟩, ⟨e', l', h1', h2', h3', h4', h5'⟩ => ⟨e', l', h1', vr_back hle _ _ _ h2 h2', vr_back hle _ _ _ h3 h3', h4', mapR_back hle h5 h5'⟩

theorem tgtR_back {ρ ρ' : Rho} (hle : ρ.le ρ') {a b c : Target} (h : tgtR ρ a b) (h' : tgtR ρ' a c) : tgtR ρ a c := by
  cases a <;> simp only [tgtR] at *
  · obtain ⟨g, ys, e, h1, h2⟩ := h
    obtain ⟨g', ys', e', h1', h2'⟩ := h'
    exact ⟨g', ys', e', fnr_back hle h1 h1', vrA_back hle _ _ _ h2 h2'⟩
  · obtain ⟨p, hp, e⟩ := h
    obtain ⟨q, hq, e'⟩ := h'
    have := hle _ _ hp
    rw [this] at hq
    obtain rfl := Option.some.inj hq
    exact ⟨p, hp, e'⟩

theorem defsR_back {ρ ρ' : Rho} (hle : ρ.le ρ') : ∀ {ds es fs : List Deferred}, defsR ρ ds es → defsR ρ' ds fs → defsR ρ ds fs
  | [], _, _, _, h => h
  | _ :: _, _, _, ⟨_, _, _, h2, h3⟩, ⟨e', l', h1', h2', h3'⟩ => ⟨e', l', h1', ⟨tgtR_back hle h2.1 h2'.1, vrA_back hle _ _ _ h2.2 h2'.2⟩, defsR_back hle h3 h3'⟩

theorem objR_back {ρ ρ' : Rho} (hle : ρ.le ρ') {w w' : World} {p : Pl} {o : AObj} (h : objR P ρ w p o) (h' : objR P ρ' w' p o) : objR P ρ w' p o := by
  cases o with
  | cells cs ro sz =>
    obtain ⟨c, t, fr, h1, h2, h3, h4, h5, h6⟩ := h
    obtain ⟨c', t', fr', h1', h2', h3', h4', h5', h6'⟩ := h'
    refine ⟨c', t', fr', h1', h2', h3', h4', fun i v' hv => ?_, h6'⟩
    obtain ⟨v, a, b⟩ := h5 i v' hv
    obtain ⟨u, a', b'⟩ := h5' i v' hv
    exact ⟨u, a', vr_back hle _ _ _ b b'⟩
  | map es clock =>
    obtain ⟨h1, h2, ces, h3, h4⟩ := h
    obtain ⟨_, _, ces', h3', h4'⟩ := h'
    exact ⟨h1, h2, ces', h3', mapR_back hle h4 h4'⟩
  | loop l =>
    obtain ⟨h1, h2, c, h3, h4⟩ := h
    obtain ⟨_, _, c', h3', g1, g2, g3, g4, g5, g6, q', g7, g8⟩ := h'
    obtain ⟨_, _, k3, _, _, _, q, k7, k8⟩ := h4
    have := hle _ _ k7
    rw [this] at g7
    obtain rfl := Option.some.inj g7
    exact ⟨h1, h2, c', h3', g1, g2, vrA_back hle _ _ _ k3 g3, g4, g5, g6, q, k7, g8⟩
  | defd ds =>
    cases ds with
    | none => exact h'
    | some ds =>
      obtain ⟨h1, h2, d, h3, h4⟩ := h
      obtain ⟨_, _, d', h3', h4'⟩ := h'
      exact ⟨h1, h2, d', h3', defsR_back hle h4 h4'⟩
  | siter s pos => exact h'
  | miter m since seen st =>
    cases m with
    | none => exact h'
    | some m =>
      obtain ⟨h1, h2, q, h3, h4⟩ := h
      obtain ⟨_, _, q', h3', h4'⟩ := h'
      have := hle _ _ h3
      rw [this] at h3'
      obtain rfl := Option.some.inj h3'
      exact ⟨h1, h2, q, h3, h4'⟩
  | dead => trivial

/-- What has been made beside the known blocks may be forgotten. -/
theorem Ext.pure {ρ ρ' : Rho} {H H' : AHeap} {w w' : World} (hr : Rel P ρ H w) (hc : Clo ρ H) (x : Ext P ρ H w ρ' H' w') (hk : ∀ b, b < H.size → H'.get b = H.get b) : Ext P ρ H w ρ H w' := by
  refine { sub := Rho.le.refl ρ, size := Nat.le_refl _, new := fun _ _ h => .inl h, rel := ⟨?_, hr.sep, fun b p hb => Nat.lt_of_lt_of_le (hr.lt b p hb) x.wsize⟩,
           wsize := x.wsize, keepC := x.keepC, keepO := x.keepO, own := fun _ _ _ h => h, unm := fun _ _ _ => rfl, os := x.os, out := x.out, tape := x.tape }
  intro b p o hb ho
  have hlt := hc b p hb
  exact objR_back x.sub (hr.obj b p o hb ho) (x.rel.obj b p o (x.sub b p hb) (by rw [hk b hlt]; exact ho))

/-- **A call that answers a plain value and leaves the known blocks as they were.** -/
theorem CallOk.pure {f : Nat} {args : List Value} {H H' : AHeap} {r : AE} (h : CallOk P f args H r H') (hf : r.flat = true) (hk : ∀ b, b < H.size → H'.get b = H.get b) : CallOk P f args H r H := by
  refine ⟨h.1, fun ρ w xs hr hc hx => CallsIn.mono (h.2 ρ w xs hr hc hx) ?_⟩
  rintro e w' ⟨ρ', hx2, he⟩
  exact ⟨ρ, hx2.pure hr hc hk, endR_flat hf he⟩

end Go.Abs
