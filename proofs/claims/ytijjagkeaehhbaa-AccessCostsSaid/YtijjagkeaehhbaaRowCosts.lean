/- AccessCosts returns true for every path and every number, and changes nothing that was there. No condition beyond the given row's own. -/
import Derived.Test.YtijjagkeaehhbaaRows
import Derived.Test.YtijjagkeaehhbaaAch
import Derived.Test.YtijjagkeaehhbaaRd
import Derived.WalkKit
import Derived.ProofKit
import Derived.OpenShut
import Derived.ShutString
import Derived.ChangeOld
import Derived.Below
import Derived.SizedLaws
set_option linter.unusedVariables false
namespace Go.Proofs.Ytijjagkeaehhbaa.Costs
open Go.ChangeShapes Go.WideShapes Go.ChangeAt Go.RowKit Go.Proofs.Ytijjagkeaehhbaa.Eng
open Go.ChangeMaps (open_string shut_string)

theorem own : ownKnob Try.prog.godebug = none := by kernel_rfl
theorem laidOut : laidOutB Try.prog = true := by kernel_rfl
abbrev L : List Nat := [29]
theorem allF : allFlat Try.prog L 8 L = true := by kernel_rfl
theorem flatPath : flatK Try.prog L 8 43 = some [.int .i64, .sl 29 3, .int .i64, .int .i64, .int .i64, .int .i64] := by kernel_rfl

set_option maxRecDepth 100000 in
theorem lifted (os : Os) (started : os.Started) (H : Type) (enc : TypeId × Value → H) :
    ReturnsInHanded {} Try.checked os 4 .any (Rows.accessCostsSpec.pre6 enc Try.prog Try.f4 Rows.accessCostsRow.domain false) (Rows.accessCostsSpec.post enc Try.prog Try.f4 false true false false) := by
  refine returnsInHanded_of_change_sized (C := Try.checked) own started (by kernel_rfl) Try.func4
    (ChangeSpec.witness6 (enc := enc) (C := Try.checked) false ⟨#[], #[.agg #[.int .i64 0, .slice none 0 0, .int .i64 0, .int .i64 0, .int .i64 0, .int .i64 0], .int .i64 0], []⟩ 8 (by kernel_rfl) (by kernel_rfl) (by kernel_rfl) (by kernel_rfl)) ?_
  intro W base args ds gs before hval0 hW hcnd hsz0 _
  have hval : ∀ (j : Nat) t v, Try.f4.params[j]? = some t → args[j]? = some v → Value.okWide Try.prog W .any base t v := hval0
  have hW' := hW
  obtain ⟨p, q, hA0, hV, rfl, hfz, hnd⟩ := hW
  have hA : DataW.TrodAll enc Try.prog W 0 (fun _ => true) true Try.f4.params.toList args.toList ds p := hA0
  rw [Try.params4] at hA hval
  obtain ⟨v0, vs0, d0, ds0, p0, q0, hargs, rfl, rfl, h0, r0⟩ := trodAll_cons hA
  obtain ⟨v1, vs1, d1, ds1, p1, q1, rfl, rfl, rfl, h1, r1⟩ := trodAll_cons r0
  obtain ⟨rfl, rfl, rfl⟩ := trodAll_nil r1
  obtain rfl : args = #[v0, v1] := by cases args; simp_all
  obtain ⟨rfl, rfl⟩ := trodVars_none hV
  have k0 := h0
  have lt0 : ∀ x ∈ p0, x.block < W.heap.size := by obtain ⟨m, hm⟩ := k0; exact DataW.trod_lt m _ _ _ hm
  obtain ⟨cs0, rfl, _⟩ := okWide_struct Try.underlying43 (hval 0 43 v0 rfl rfl)
  obtain ⟨fuel0, hf0⟩ := h0
  obtain ⟨ps0, s0, c0⟩ := read allF fuel0 8 43 _ _ _ flatPath hf0
  obtain ⟨n, rfl, rfl, rfl, w1⟩ := open_int Try.underlying3 (hval 1 3 v1 rfl rfl) h1
  cases s0 with | @int _ k _ _ hk s0 =>
  cases s0 with | @sl _ _ _ key _ _ hke hkl hkn hks s0 =>
  cases s0 with | @int _ a _ _ ha s0 =>
  cases s0 with | @int _ b _ _ hb s0 =>
  cases s0 with | @int _ c _ _ hc s0 =>
  cases s0 with | @int _ d _ _ hd s0 =>
  cases s0
  have hn : n ≤ 9223372036854775807 := by
    simp only [Lit.wf, Bool.and_eq_true, decide_eq_true_eq] at w1
    exact w1.2
  have ha0 : AVR W (Old W) (fun _ => undef) 0 (pathA k key a b c d) (.agg cs0) := cells_avr c0
  refine ((c_costs k key a b c d n hkl hn).2 W (Old W) (fun b h => h) #[.agg cs0, .int .i64 n] rfl (fun i x hx => ?_)).mono fun e W' ⟨v, r, hr, he, bel, hv⟩ => ?_
  · match i with
    | 0 => simp at hx; subst hx; exact ⟨_, rfl, ha0⟩
    | 1 => simp at hx; subst hx; exact ⟨_, rfl, .one (.lf (.pv (.int _ _)))⟩
    | i + 2 => simp at hx
  · subst hr he
    have hv' := hv.bool_inv
    subst hv'
    exact ⟨_, rfl, _, _, _, [], _, [], hW', trodAll_mk1 (shut_bool Try.underlying4 _), (trodAll_cons_mk (Below.trod laidOut (by kernel_rfl) (of_decide_eq_true (by kernel_rfl)) k0 bel lt0) (trodAll_cons_mk (shut_int Try.underlying3 w1) trodAll_mk0)), rfl, bel.frame _, fun h => by cases h⟩

theorem over : Rows.accessCostsRow.holds Try.pinned (OpenSpec.ofChange Rows.accessCostsSpec) :=
  OpenClaim.holds_of_wide 4 Try.f4 rfl rfl rfl rfl rfl rfl rfl ⟨rfl, rfl, rfl, rfl, rfl⟩ rfl rfl rfl rfl rfl (by kernel_rfl) Try.func4 (by kernel_rfl)
    (of_decide_eq_true (by kernel_rfl)) (by unfold Func.isWrapper; first | (rw [if_pos (by decide +kernel)]; kernel_rfl) | (rw [if_neg (by decide +kernel)]; exact ⟨rfl, rfl⟩))
    (fun os started H enc _ => lifted os started H enc)
theorem proved : Rows.AccessCostsSaid := over
end Go.Proofs.Ytijjagkeaehhbaa.Costs
namespace Go.Proofs.Ytijjagkeaehhbaa
/-- The row, under a short name, for the claim. -/
theorem accessCosts_holds : Rows.AccessCostsSaid := Costs.proved
#print axioms accessCosts_holds
end Go.Proofs.Ytijjagkeaehhbaa
