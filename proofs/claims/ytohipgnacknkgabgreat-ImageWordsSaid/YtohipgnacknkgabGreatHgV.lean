/-
  ABS, part V: a region that draws the order of its operations comes out the same in each (two). (Own work.)
-/
import Derived.Test.YtohipgnacknkgabGreatHgU
set_option linter.unusedSimpArgs false
set_option linter.unusedVariables false
namespace Go.Abs
open Go

variable {e : Ev} {l : List IOper} {ts0 : Tmps} {H0 : AHeap} {R : List DRec} {S : Nat → Bool}

structure PairOk (R : List DRec) : Prop where
  ord : ∀ A r B, R = A ++ r :: B → ∀ q, q ∈ B → (conf r.i r.o q.i q.o = true → q.i.anc.testBit r.i.idx = true) ∧ q.i.idx ≠ r.i.idx

def Closed (R : List DRec) (S : Nat → Bool) : Prop := ∀ r, r ∈ R → S r.i.idx = true → ∀ x, r.i.anc.testBit x = true → S x = true

theorem conf_loud {i j : IInfo} {a b : IOper} (ha : i.loud = true) (hb : j.loud = true) : conf i a j b = true := by simp [conf, ha, hb]

theorem window_ok {r : DRec} : ∀ {L : List DRec} {H : AHeap}, window e r H L = true → (∀ A q B, L = A ++ q :: B → ∀ p, p ∈ B → p.i.anc.testBit q.i.idx = true) →
    (∀ q, q ∈ L → S q.i.idx = true → ∀ x, q.i.anc.testBit x = true → S x = true) → S r.i.idx = false → (∀ x, r.i.anc.testBit x = true → S x = true) → sameAt e r (hF L S H) = true
  | [], H, h, _, _, _, _ => h
  | q :: L, H, h, hp, hc, hn, ha => by
    simp only [window, Bool.and_eq_true, Bool.or_eq_true] at h
    obtain ⟨h1, h2⟩ := h
    by_cases hS : S q.i.idx = true
    · have h3 : window e r q.H' L = true := by
        rcases h2 with h2 | h2
        · have := hc q (by simp) hS _ h2
          rw [hn] at this
          cases this
        · exact h2
      have ih := window_ok h3 (fun A q' B hh p hp' => hp (q :: A) q' B (by simp [hh]) p hp') (fun q' hq' => hc q' (List.mem_cons_of_mem _ hq')) hn ha
      simp only [hF, List.foldl_cons, hS, if_true] at ih ⊢
      exact ih
    · have hS' : S q.i.idx = false := by simpa using hS
      have hnone : ∀ p, p ∈ q :: L → S p.i.idx = false := by
        intro p hpm
        rcases List.mem_cons.1 hpm with rfl | hpm
        · exact hS'
        · cases hSp : S p.i.idx with
          | false => rfl
          | true =>
            have := hc p (List.mem_cons_of_mem _ hpm) hSp _ (hp [] q L rfl p hpm)
            rw [hS'] at this
            cases this
      rw [hF_none hnone]
      rcases h1 with h1 | h1
      · have := ha _ h1
        rw [hS'] at this
        cases this
      · exact h1

theorem louds_append (A B : List DRec) : louds (A ++ B) = louds A ++ louds B := by simp [louds]

theorem mem_louds {q : DRec} {R : List DRec} : q ∈ louds R ↔ q ∈ R ∧ q.i.loud = true := by simp [louds]

theorem louds_pairs (hp : PairOk R) : ∀ A q B, louds R = A ++ q :: B → ∀ p, p ∈ B → p.i.anc.testBit q.i.idx = true := by
  obtain ⟨hp⟩ := hp
  induction R with
  | nil => intro A q B hh; simp [louds] at hh
  | cons r R ih =>
    intro A q B hh p hpm
    have hR : ∀ A r' B, R = A ++ r' :: B → ∀ q, q ∈ B → (conf r'.i r'.o q.i q.o = true → q.i.anc.testBit r'.i.idx = true) ∧ q.i.idx ≠ r'.i.idx := fun A r' B hh => hp (r :: A) r' B (by simp [hh])
    rw [louds_cons] at hh
    split at hh
    · rename_i hl
      cases A with
      | nil =>
        simp only [List.nil_append, List.cons.injEq] at hh
        obtain ⟨rfl, rfl⟩ := hh
        have hm := mem_louds.1 hpm
        exact (hp [] r R rfl p hm.1).1 (conf_loud hl hm.2)
      | cons a A =>
        simp only [List.cons_append, List.cons.injEq] at hh
        exact ih hR A q B hh.2 p hpm
    · exact ih hR A q B hh p hpm

/-- One operation more: what it finds. -/
theorem step_state {HE : AHeap} (hrun : RunOk e l ts0 H0 HE R) (hp : PairOk R) (hcl : Closed R S) {A B : List DRec} {r : DRec} (hR : R = A ++ r :: B) (hn : S r.i.idx = false) (ha : ∀ x, r.i.anc.testBit x = true → S x = true)
    {S' : Nat → Bool} (hS' : ∀ x, S' x = (S x || x == r.i.idx)) :
    Agree r.o.reads (tsF R S ts0) r.ts ∧ putT (tsF R S ts0) r.o.dst r.v = tsF R S' ts0 ∧ (r.i.loud = false → hF (louds R) S' HE = hF (louds R) S HE) ∧
      (r.i.loud = true → stepV e r.o r.ts (hF (louds R) S HE) = some (r.v, hF (louds R) S' HE)) := by
  obtain ⟨g1, g3⟩ := hrun.ats A r B hR
  have hB : ∀ q, q ∈ B → (conf r.i r.o q.i q.o = true → q.i.anc.testBit r.i.idx = true) ∧ q.i.idx ≠ r.i.idx := hp.ord A r B hR
  have hA : ∀ q, q ∈ A → (conf q.i q.o r.i r.o = true → r.i.anc.testBit q.i.idx = true) ∧ r.i.idx ≠ q.i.idx := by
    intro q hq
    obtain ⟨A1, A2, rfl⟩ := List.append_of_mem hq
    exact hp.ord A1 q (A2 ++ r :: B) (by simp [hR]) r (by simp)
  have hBS : ∀ q, q ∈ B → S q.i.idx = true → conf r.i r.o q.i q.o = false := by
    intro q hq hSq
    cases hc : conf r.i r.o q.i q.o with
    | false => rfl
    | true =>
      have := hcl q (by rw [hR]; simp [hq]) hSq _ ((hB q hq).1 hc)
      rw [hn] at this
      cases this
  have hAS : ∀ q, q ∈ A → conf q.i q.o r.i r.o = true → S q.i.idx = true := fun q hq hc => ha _ ((hA q hq).1 hc)
  have eS : ∀ q : DRec, q.i.idx ≠ r.i.idx → S' q.i.idx = S q.i.idx := by
    intro q hne
    rw [hS']
    have : (q.i.idx == r.i.idx) = false := by simpa using hne
    simp [this]
  have eSr : S' r.i.idx = true := by rw [hS']; simp
  have eA : ∀ q, q ∈ A → S' q.i.idx = S q.i.idx := fun q hq => eS q (Ne.symm (hA q hq).2)
  have eB : ∀ q, q ∈ B → S' q.i.idx = S q.i.idx := fun q hq => eS q (hB q hq).2
  have hput : putT (tsF R S ts0) r.o.dst r.v = tsF R S' ts0 := by
    rw [hR, tsF_append, tsF_append, tsF_congr (R := A) eA]
    have e1 : tsF (r :: B) S (tsF A S ts0) = tsF B S (tsF A S ts0) := by simp [tsF, hn]
    have e2 : tsF (r :: B) S' (tsF A S ts0) = tsF B S (putT (tsF A S ts0) r.o.dst r.v) := by
      rw [← tsF_congr (R := B) eB]
      simp [tsF, eSr]
    rw [e1, e2]
    cases hd : r.o.dst with
    | none => rfl
    | some d =>
      simp only [putT]
      rw [tsF_put]
      intro q hq hSq hqd
      have := hBS q hq hSq
      simp [conf, hits, hd, hqd] at this
  have hag : Agree r.o.reads (tsF R S ts0) r.ts := by
    intro t ht
    rw [g1, hR, tsF_append]
    have e1 : tsF (r :: B) S (tsF A S ts0) = tsF B S (tsF A S ts0) := by simp [tsF, hn]
    rw [e1, tsF_get, tsF_agree rfl rfl]
    · intro q hq hqd
      refine hAS q hq ?_
      simp only [conf, hits, hqd, Bool.or_eq_true, List.contains_iff_mem]
      exact .inl (.inr ht)
    · intro q hq hSq hqd
      have := hBS q hq hSq
      simp [conf, hits, hqd, ht] at this
  refine ⟨hag, hput, fun hl => ?_, fun hl => ?_⟩
  · refine hF_congr fun q hq => ?_
    have hq' := mem_louds.1 hq
    refine eS q ?_
    rw [hR] at hq'
    rcases List.mem_append.1 hq'.1 with h | h
    · exact Ne.symm (hA q h).2
    · rcases List.mem_cons.1 h with rfl | h
      · rw [hl] at hq'; exact absurd hq'.2 (by decide)
      · exact (hB q h).2
  · have hLA : ∀ q, q ∈ louds A → S q.i.idx = true := fun q hq => hAS q (mem_louds.1 hq).1 (conf_loud (mem_louds.1 hq).2 hl)
    have hLB : ∀ q, q ∈ louds B → S q.i.idx = false := by
      intro q hq
      cases hSq : S q.i.idx with
      | false => rfl
      | true =>
        have := hBS q (mem_louds.1 hq).1 hSq
        rw [conf_loud hl (mem_louds.1 hq).2] at this
        cases this
    have e0 : louds R = louds A ++ (r :: louds B) := by rw [hR, louds_append, louds_cons, hl, if_pos rfl]
    have e1 : hF (louds R) S HE = hF (louds A) (fun _ => true) HE := by
      rw [e0, hF_append]
      have : hF (r :: louds B) S (hF (louds A) S HE) = hF (louds B) S (hF (louds A) S HE) := by simp [hF, hn]
      rw [this, hF_none hLB]
      exact hF_congr hLA
    have e2 : hF (louds R) S' HE = r.H' := by
      rw [e0, hF_append]
      have : hF (r :: louds B) S' (hF (louds A) S' HE) = hF (louds B) S' r.H' := by simp [hF, eSr]
      rw [this, hF_none]
      intro q hq
      rw [eB q (mem_louds.1 hq).1]
      exact hLB q hq
    rw [e1, e2]
    exact hrun.loud A r B hR hl

/-! ### Every schedule -/

def lst (listed : Array Bool) (i : Nat) : Bool := listed.getD i false

def unl (N : Nat) (listed : Array Bool) : Nat := (List.range N).countP fun i => !lst listed i

theorem countP_lt {p q : Nat → Bool} : ∀ {l : List Nat}, (∀ x, q x = true → p x = true) → ∀ {a : Nat}, a ∈ l → p a = true → q a = false → l.countP q < l.countP p
  | [], _, a, ha, _, _ => by cases ha
  | x :: l, h, a, ha, hp, hq => by
    have hle : l.countP q ≤ l.countP p := List.countP_mono_left fun x _ => h x
    rcases List.mem_cons.1 ha with rfl | ha
    · rw [List.countP_cons, List.countP_cons, hp, hq]
      simp
      omega
    · have ih := countP_lt h ha hp hq
      rw [List.countP_cons, List.countP_cons]
      cases hqx : q x with
      | false => simp; omega
      | true => simp [h x hqx]; omega

theorem lst_set {listed : Array Bool} {i : Nat} (hi : i < listed.size) (x : Nat) : lst (listed.setIfInBounds i true) x = (lst listed x || x == i) := by
  unfold lst
  simp only [Array.getD_eq_getD_getElem?, Array.getElem?_setIfInBounds]
  by_cases h : i = x
  · subst h; simp [hi]
  · have : (x == i) = false := by simpa using Ne.symm h
    simp [h, this]

/-- An order in which the operations may come. -/
def Sched (R : List DRec) : (Nat → Bool) → List Nat → Prop
  | S, [] => ∀ r, r ∈ R → S r.i.idx = true
  | S, i :: is => ∃ A r B, R = A ++ r :: B ∧ r.i.idx = i ∧ S i = false ∧ (∀ x, r.i.anc.testBit x = true → S x = true) ∧ ∃ S', (∀ x, S' x = (S x || x == i)) ∧ Closed R S' ∧ Sched R S' is

theorem go_ok {ops : Array Oper} (hp : PairOk R)
    (hops : ∀ r, r ∈ R → ∃ o, ops[r.i.idx]? = some o ∧ r.i.deps = (o.after.toList.filter (Region.binds .any ·)).map (·.on))
    (hdeps : ∀ A r B, R = A ++ r :: B → (∀ d, d ∈ r.i.deps → ∃ q, q ∈ A ∧ q.i.idx = d) ∧ ∀ x, r.i.anc.testBit x = true → ∃ d, d ∈ r.i.deps ∧ (x = d ∨ ∃ q, q ∈ A ∧ q.i.idx = d ∧ q.i.anc.testBit x = true))
    (hcov : ∀ i, i < ops.size → ∃ r, r ∈ R ∧ r.i.idx = i) :
    ∀ (fuel t : Nat) (listed : Array Bool), listed.size = ops.size → unl ops.size listed ≤ fuel → Closed R (lst listed) → Sched R (lst listed) (Region.linearise.go .any ops fuel t listed [])
  | fuel, t, listed, hsz, hfuel, hcl => by
    have hidx : ∀ r, r ∈ R → r.i.idx < ops.size := fun r hr => by
      obtain ⟨o, ho, _⟩ := hops r hr
      exact (Array.getElem?_eq_some_iff.1 ho).1
    cases fuel with
    | zero =>
      simp only [Region.linearise.go, List.reverse_nil]
      intro r hr
      have h0 : unl ops.size listed = 0 := by omega
      unfold unl at h0
      rw [List.countP_eq_zero] at h0
      have := h0 r.i.idx (List.mem_range.2 (hidx r hr))
      simpa using this
    | succ fuel =>
      simp only [Region.linearise.go]
      change Sched R (lst listed) (match (Region.ready .any ops listed)[t % (Region.ready .any ops listed).length]? with
        | some i => Region.linearise.go .any ops fuel (t / (Region.ready .any ops listed).length) (listed.setIfInBounds i true) [i]
        | none => [].reverse)
      cases hi : (Region.ready .any ops listed)[t % (Region.ready .any ops listed).length]? with
      | none =>
        have hnil : Region.ready .any ops listed = [] := by
          cases hr : Region.ready .any ops listed with
          | nil => rfl
          | cons x xs =>
            rw [hr] at hi
            have hlt : t % (x :: xs).length < (x :: xs).length := Nat.mod_lt _ (by simp)
            rw [List.getElem?_eq_getElem hlt] at hi
            cases hi
        simp only [List.reverse_nil]
        -- the first one that is not listed would be ready
        have key : ∀ (B A : List DRec), R = A ++ B → (∀ q, q ∈ A → lst listed q.i.idx = true) → ∀ r, r ∈ B → lst listed r.i.idx = true := by
          intro B
          induction B with
          | nil => intro A _ _ r hr; cases hr
          | cons b B ih =>
            intro A hAB hAl r hr
            have hb : lst listed b.i.idx = true := by
              cases hbl : lst listed b.i.idx with
              | true => rfl
              | false =>
                obtain ⟨o, ho, hd⟩ := hops b (by rw [hAB]; simp)
                have hlt : b.i.idx < ops.size := (Array.getElem?_eq_some_iff.1 ho).1
                have hmem : b.i.idx ∈ Region.ready .any ops listed := by
                  refine mem_ready.2 ⟨?_, o, ho, fun e he hbind => ?_⟩
                  · unfold lst at hbl
                    simp only [Array.getD_eq_getD_getElem?] at hbl ⊢
                    rw [Array.getElem?_eq_getElem (by omega)] at hbl ⊢
                    simpa using hbl
                  · obtain ⟨q, hq, hqe⟩ := (hdeps A b B hAB).1 e.on (by rw [hd]; exact List.mem_map.2 ⟨e, List.mem_filter.2 ⟨by simpa using he, hbind⟩, rfl⟩)
                    have := hAl q hq
                    rw [hqe] at this
                    exact this
                rw [hnil] at hmem
                cases hmem
            rcases List.mem_cons.1 hr with rfl | hr
            · exact hb
            · exact ih (A ++ [b]) (by simp [hAB]) (fun q hq => by
                rcases List.mem_append.1 hq with h | h
                · exact hAl q h
                · simp at h; rw [h]; exact hb) r hr
        exact key R [] rfl (fun q hq => by cases hq)
      | some i =>
        simp only []
        rw [linearise_go_acc, List.reverse_singleton, List.singleton_append]
        have hmem := List.mem_of_getElem? hi
        obtain ⟨hun, o, ho, hall⟩ := mem_ready.1 hmem
        have hlt : i < ops.size := (Array.getElem?_eq_some_iff.1 ho).1
        obtain ⟨r, hr, hri⟩ := hcov i hlt
        obtain ⟨A, B, hAB⟩ := List.append_of_mem hr
        have hn : lst listed i = false := by
          unfold lst
          simp only [Array.getD_eq_getD_getElem?] at hun ⊢
          rw [Array.getElem?_eq_getElem (by omega)] at hun ⊢
          simpa using hun
        obtain ⟨o', ho', hd⟩ := hops r hr
        rw [hri, ho] at ho'
        obtain rfl := Option.some.inj ho'
        have hdl : ∀ d, d ∈ r.i.deps → lst listed d = true := by
          intro d hdm
          rw [hd] at hdm
          obtain ⟨ed, hed, rfl⟩ := List.mem_map.1 hdm
          obtain ⟨h1, h2⟩ := List.mem_filter.1 hed
          exact hall ed (by simpa using h1) h2
        have hanc : ∀ x, r.i.anc.testBit x = true → lst listed x = true := by
          intro x hx
          obtain ⟨d, hdm, h | ⟨q, hq, e1, e2⟩⟩ := (hdeps A r B hAB).2 x hx
          · rw [h]; exact hdl d hdm
          · exact hcl q (by rw [hAB]; simp [hq]) (by rw [e1]; exact hdl d hdm) x e2
        have hS' := lst_set (listed := listed) (i := i) (by omega)
        have hcl' : Closed R (lst (listed.setIfInBounds i true)) := by
          intro q hq hSq x hx
          rw [hS' x]
          rw [hS' q.i.idx] at hSq
          simp only [Bool.or_eq_true, beq_iff_eq] at hSq ⊢
          rcases hSq with h | h
          · exact .inl (hcl q hq h x hx)
          · have hqr : q = r := by
              rw [hAB] at hq
              rcases List.mem_append.1 hq with h' | h'
              · obtain ⟨A1, A2, rfl⟩ := List.append_of_mem h'
                exact absurd (hri.trans h.symm) (hp.ord A1 q (A2 ++ r :: B) (by simp [hAB]) r (by simp)).2
              · rcases List.mem_cons.1 h' with h' | h'
                · exact h'
                · exact absurd (h.trans hri.symm) (hp.ord A r B hAB q h').2
            rw [hqr] at hx
            exact .inl (hanc x hx)
        have hless : unl ops.size (listed.setIfInBounds i true) ≤ fuel := by
          have : unl ops.size (listed.setIfInBounds i true) < unl ops.size listed := by
            unfold unl
            refine countP_lt (fun x hx => ?_) (List.mem_range.2 hlt) ?_ ?_
            · rw [hS' x] at hx
              simp at hx ⊢
              exact hx.1
            · simp [hn]
            · rw [hS' i]; simp
          omega
        exact ⟨A, r, B, hAB, hri, hn, hanc, _, hS', hcl', go_ok hp hops hdeps hcov fuel (t / (Region.ready .any ops listed).length) (listed.setIfInBounds i true) (by simp [hsz]) hless hcl'⟩

theorem replicate_lst (n i : Nat) : lst (Array.replicate n false) i = false := by
  unfold lst
  simp only [Array.getD_eq_getD_getElem?, Array.getElem?_replicate]
  split <;> rfl

end Go.Abs
