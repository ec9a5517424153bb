/-
  'ImageWords' answers true at every slice of words, and leaves it as it was; no condition.
-/
import Derived.Test.YtohipgnacknkgabGreatRows
import Derived.Test.YtohipgnacknkgabGreatHgT4
import Derived.Test.YtohipgnacknkgabGreatHgTc
import Derived.Test.YtohipgnacknkgabGreatHgXi
import Derived.ProofKit
set_option linter.unusedSimpArgs false
set_option linter.unusedVariables false
namespace Go.Abs.Tryz
open Go Go.Abs Go.Proofs

theorem s4 (H : AHeap) (K : AE → AHeap → Prop) (h : K (.ret (.bool true)) H) : WCall Tryz.prog 4 [] H K := by
  have h1 : CallOk Tryz.prog 4 [] AHeap.empty (.ret (.bool true)) c5.H2 := ok5
  exact ⟨_, _, h1.flat rfl rfl H, h⟩

end Go.Abs.Tryz
namespace Go.Proofs.YtohipgnacknkgabGreat
open Go.ChangeShapes Go.WideShapes Go.ChangeAt Go.RowKit
open Go.Abs (CallOk rowHeap rowRho rowRel rowClo rowNo Ext.below openCap)

theorem Tryz.own : ownKnob Tryz.prog.godebug = none := by kernel_rfl
theorem Tryz.laidOut : laidOutB Tryz.prog = true := by kernel_rfl

/-- The walk, at a slice that is there. -/
theorem row_any (W : World) (a : Addr) (len cap : Nat) (zs : List Int) (hsp : a.spot = none) (hblk : ∃ c t fr, W.heap[a.block]? = some (.cells c t fr)) (hlc : len ≤ cap) (hcap : cap ≤ maxLen) (hz : zs.length = cap)
    (hcell : ∀ i, i < zs.length → W.cell? (a.add i) = some (.int .u64 (zs.getD i 0))) :
    Calls Tryz.prog 3 #[.slice (some a) len cap] W fun e w' => e = .returned (.bool true) ∧ Below W.heap.size W w' := by
  obtain ⟨c, t, fr, hc⟩ := hblk
  have hB : a.block < W.heap.size := (Array.getElem?_eq_some_iff.1 hc).1
  obtain ⟨ab, ao, asp⟩ := a
  simp only at hsp hB hc
  subst hsp
  have hoc : cap < openCap := by unfold openCap; unfold maxLen at hcap; omega
  have main : ∀ (p : Go.Abs.Pl) (o : Nat) (cs : List Value), p.B = ab → p.base + o = ao → Go.Abs.objR Tryz.prog (rowRho p) W p (.cells cs true 1) → (len ≠ 0 → o + len ≤ cs.length) →
      (∀ k, k < len → ∃ n, cs[o + k]? = some (.int .u64 n)) →
      Calls Tryz.prog 3 #[.slice (some ⟨ab, ao, none⟩) len cap] W fun e w' => e = .returned (.bool true) ∧ Below W.heap.size W w' := by
    intro p o cs hpB hpo hobj hol hcs
    have hcall : Go.Abs.WCall Tryz.prog 3 [.slice (some ⟨0, o, none⟩) len cap] (rowHeap cs) fun r _ => r = .ret (.bool true) :=
      Go.Abs.Tryz.s3 Go.Abs.Tryz.s4 _ 0 o len cap cs true 1 (Go.Abs.rowHeap_get cs) (by rw [Go.Abs.rowHeap_size]; omega) (.inl ⟨by omega, hlc⟩) hol hcs _ (fun _ _ => rfl)
    obtain ⟨r, H', hok, rfl⟩ := hcall
    have hv : Go.Abs.vrL (rowRho p) [.slice (some ⟨0, o, none⟩) len cap] (#[Value.slice (some ⟨ab, ao, none⟩) len cap]).toList := by
      simp only [Go.Abs.vrL, Go.Abs.vr, Go.Abs.slr]
      refine ⟨_, [], rfl, ⟨trivial, p, by simp [rowRho], .inl ⟨hoc, hlc, ?_⟩⟩, rfl⟩
      rw [hpB, hpo]
    refine ((callsIn_wide (n := 0)).1 (hok.2 (rowRho p) W _ (rowRel hobj (by rw [hpB]; exact hB)) rowClo hv)).mono ?_
    rintro e w' ⟨ρ', hx, y, rfl, hy⟩
    simp only [Go.Abs.vr] at hy
    subst hy
    exact ⟨rfl, hx.below rowNo⟩
  by_cases h0 : cap = 0
  · have hl0 : len = 0 := by omega
    refine main ⟨ab, 0, 0, 1⟩ ao [] rfl (by simp) ⟨c, t, fr, hc, by simp, by simp, rfl, fun i v' hv => by simp at hv, fun hh => by cases hh⟩ (fun h => absurd hl0 h) (fun k hk => by omega)
  · have hget : ∀ i, i < cap → c[ao + i]? = some (.int .u64 (zs.getD i 0)) := by
      intro i hi
      have := hcell i (by omega)
      rw [Addr.add_lit] at this
      simpa [World.cell?, hc] using this
    have hsz : ao + cap ≤ c.size := by
      have := hget (cap - 1) (by omega)
      have := (Array.getElem?_eq_some_iff.1 this).1
      omega
    have hmap : ∀ k, k < cap → (zs.map (Value.int .u64))[k]? = some (.int .u64 (zs.getD k 0)) := by
      intro k hk
      rw [List.getElem?_map, List.getD_eq_getElem?_getD, List.getElem?_eq_getElem (by omega)]
      simp
    refine main ⟨ab, ao, cap, 1⟩ 0 (zs.map (Value.int .u64)) rfl (by simp) ⟨c, t, fr, hc, hsz, by simp [hz], rfl, fun i v' hv => ?_, fun hh => by cases hh⟩ (fun _ => by simp [hz]; exact hlc) (fun k hk => ⟨_, by rw [Nat.zero_add]; exact hmap k (by omega)⟩)
    have hi : i < cap := by have := (List.getElem?_eq_some_iff.1 hv).1; simpa [hz] using this
    rw [hmap i hi] at hv
    obtain rfl := Option.some.inj hv
    exact ⟨_, hget i hi, by simp only [Go.Abs.vr]⟩

theorem row_nil (W : World) : Calls Tryz.prog 3 #[.slice none 0 0] W fun e w' => e = .returned (.bool true) ∧ Below W.heap.size W w' := by
  have hcall : Go.Abs.WCall Tryz.prog 3 [.slice none 0 0] Go.Abs.AHeap.empty fun r _ => r = .ret (.bool true) :=
    Go.Abs.Tryz.s3n Go.Abs.Tryz.s4 _ _ (fun _ _ => rfl)
  obtain ⟨r, H', hok, rfl⟩ := hcall
  have h0 : Go.Abs.Rel Tryz.prog (fun _ => none) Go.Abs.AHeap.empty W := ⟨fun b p o hb _ => (by cases hb), fun b b' p p' o o' _ hb _ _ _ _ _ => (by cases hb), fun b p hb => (by cases hb)⟩
  refine ((callsIn_wide (n := 0)).1 (hok.2 (fun _ => none) W _ h0 (fun b p hb => (by cases hb)) (by simp only [Go.Abs.vrL, Go.Abs.vr]; exact ⟨_, [], rfl, rfl, rfl⟩))).mono ?_
  rintro e w' ⟨ρ', hx, y, rfl, hy⟩
  simp only [Go.Abs.vr] at hy
  subst hy
  exact ⟨rfl, hx.below (by rintro B i ⟨b, q, o, hb, _⟩; cases hb)⟩

set_option maxRecDepth 100000 in
theorem words_lifted (os : Os) (started : os.Started) (H : Type) (enc : TypeId × Value → H) :
    ReturnsInHanded {} Tryz.checked os 3 .any (Rows.imageWordsSpec.pre6 enc Tryz.prog Tryz.f3 Rows.imageWordsRow.domain false) (Rows.imageWordsSpec.post enc Tryz.prog Tryz.f3 false true false false) := by
  refine returnsInHanded_of_change (C := Tryz.checked) Tryz.own started (by kernel_rfl) Tryz.func3
    (ChangeSpec.witness6 (enc := enc) (C := Tryz.checked) false ⟨#[], #[.slice none 0 0], []⟩ 8 (by kernel_rfl) (by kernel_rfl) (by kernel_rfl) (by kernel_rfl)) ?_
  intro W base args ds gs before hval0 hW _ _
  have hval : ∀ (j : Nat) t v, Tryz.f3.params[j]? = some t → args[j]? = some v → Value.okWide Tryz.prog W .any base t v := hval0
  have hW' := hW
  obtain ⟨p, q, hA0, hV, rfl, _, _⟩ := hW
  have hA : DataW.TrodAll enc Tryz.prog W 0 (fun _ => true) true Tryz.f3.params.toList args.toList ds p := hA0
  rw [Tryz.params3] at hA hval
  obtain ⟨v0, d0, rfl, rfl, h0⟩ := trodAll_one hA
  obtain ⟨rfl, rfl⟩ := trodVars_none hV
  have hok := hval 0 22 v0 rfl rfl
  obtain ⟨a0, len, cap, rfl⟩ := okWide_slice Tryz.underlying22 hok
  have h0k := h0
  obtain ⟨fuel, hf⟩ := h0
  clear hA0 hval0
  simp only [List.append_nil] at hW'
  have hlt : ∀ x ∈ p, x.block < W.heap.size := fun x hx => by simpa using hW'.lt x hx
  have harg0 : ∀ (W' : World), Below W.heap.size W W' → DataW.Trod enc Tryz.prog W' 0 (fun b => decide (b < W.heap.size)) true 22 (.slice a0 len cap) d0 p :=
    fun W' hn => Below.trod Tryz.laidOut (by kernel_rfl) (of_decide_eq_true (by kernel_rfl)) h0k hn hlt
  have fin : ∀ (W' : World), Below W.heap.size W W' → Rows.imageWordsSpec.post enc Tryz.checked.prog Tryz.f3 false true false false W #[.slice a0 len cap] (.bool true) W' := by
    intro W' hnx
    refine ⟨_, _, _, [], p, [], hW', ?_, trodAll_mk1 (harg0 _ hnx), rfl, hnx.frame _, fun h => by cases h⟩
    exact trodAll_mk1 (shut_bool Tryz.underlying4 true)
  rcases open_ints Tryz.underlying22 Tryz.underlying26 (by kernel_rfl) hf with ⟨hcs, _⟩ | ⟨a, len', cap', zs, hcs, _, hlc, hm, hz, _, hcell, _⟩
  · simp [Value.cells] at hcs
    obtain ⟨rfl, rfl, rfl⟩ := hcs
    refine (row_nil W).mono fun e W' ⟨he, hn⟩ => ?_
    subst he
    exact ⟨_, rfl, fin W' hn⟩
  · simp [Value.cells] at hcs
    obtain ⟨rfl, rfl, rfl⟩ := hcs
    have hhas : W.has Tryz.prog .any base a 26 cap := by
      simp only [Value.okWide, Tryz.underlying22, Cell.okWide, Cell.ok] at hok
      exact hok.2.2
    obtain ⟨_, hsp, row, cells, hsh, _⟩ := hhas
    have hblk : ∃ c t fr, W.heap[a.block]? = some (.cells c t fr) := by
      unfold World.shape? at hsh
      split at hsh
      · rename_i c t fr hh; exact ⟨c, t, fr, hh⟩
      · cases hsh
    refine (row_any W a len cap zs hsp hblk hlc hm (by simpa using hz) hcell).mono fun e W' ⟨he, hn⟩ => ?_
    subst he
    exact ⟨_, rfl, fin W' hn⟩

theorem imageWords_holds : Rows.ImageWordsSaid :=
  OpenClaim.holds_of_wide 3 Tryz.f3 rfl rfl rfl rfl rfl rfl rfl ⟨rfl, rfl, rfl, rfl, rfl⟩ rfl rfl rfl rfl rfl (by kernel_rfl) Tryz.func3 (by kernel_rfl)
    (of_decide_eq_true (by kernel_rfl)) (by unfold Func.isWrapper; first | (rw [if_pos (by decide +kernel)]; kernel_rfl) | (rw [if_neg (by decide +kernel)]; exact ⟨rfl, rfl⟩))
    (fun os started H enc _ => words_lifted os started H enc)
#print axioms imageWords_holds
end Go.Proofs.YtohipgnacknkgabGreat
