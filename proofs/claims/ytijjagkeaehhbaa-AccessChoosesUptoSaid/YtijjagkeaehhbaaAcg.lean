/- What '==' says of two rectangles, and what the example of bitemporallaw49 (awake) computes. Each function's arguments are its condition. -/
import Derived.Test.YtijjagkeaehhbaaAcf
set_option linter.unusedSimpArgs false
set_option linter.unusedVariables false
namespace Go.Proofs.Ytijjagkeaehhbaa.Eng
open Go.RowKit (Below)

theorem rect_of {w S σ n a b c d v} (h : AVR w S σ n (.agg [li a, li b, li c, li d]) v) : v = .agg #[.int .i64 a, .int .i64 b, .int .i64 c, .int .i64 d] := by
  obtain ⟨vs, rfl, h1, h2⟩ := agg_of h
  obtain ⟨u0, e0, h0⟩ := h2 0 _ rfl
  obtain ⟨u1, e1, h1'⟩ := h2 1 _ rfl
  obtain ⟨u2, e2, h2'⟩ := h2 2 _ rfl
  obtain ⟨u3, e3, h3'⟩ := h2 3 _ rfl
  rw [int_of h0] at e0
  rw [int_of h1'] at e1
  rw [int_of h2'] at e2
  rw [int_of h3'] at e3
  congr 1
  apply Array.ext
  · simpa using h1
  · intro i hi hj
    match i with
    | 0 => rw [Array.getElem?_eq_getElem hi] at e0; simpa using e0
    | 1 => rw [Array.getElem?_eq_getElem hi] at e1; simpa using e1
    | 2 => rw [Array.getElem?_eq_getElem hi] at e2; simpa using e2
    | 3 => rw [Array.getElem?_eq_getElem hi] at e3; simpa using e3
    | i + 4 => simp at h1; omega

theorem eqRect (a b c d a' b' c' d' : Int) (w : World) : (Op.equalIn 10000 41 (.agg #[.int .i64 a, .int .i64 b, .int .i64 c, .int .i64 d]) (.agg #[.int .i64 a', .int .i64 b', .int .i64 c', .int .i64 d'])).run Try.prog w = .ok ((a == a' && b == b') && (c == c' && d == d')) w := by
  have u3 := Try.underlying3
  have a3 := Try.isAgg3
  have z3 := Try.sizeOf3
  have u35 := Try.underlying35
  have a35 := Try.isAgg35
  have z35 := Try.sizeOf35
  have hS : Try.prog.underlying 41 = some (.struct (Try.prog.fieldsOf 41)) := by kernel_rfl
  have hp : Try.prog.stoodInHeld 41 = false := by kernel_rfl
  rw [show (10000 : Nat) = 9999 + 1 from rfl, run_equalIn_agg w 9999 41 _ _ hS hp]
  simp only [Program.fieldsOf, Try.underlying41]
  go_simp

  by_cases h1 : a = a' <;> by_cases h2 : b = b' <;> by_cases h3 : c = c' <;> by_cases h4 : d = d' <;> simp [h1, h2, h3, h4]
theorem eq_rect (X Y : Operand) (a b c d a' b' c' d' : Int) : EqV Try.prog .eql 41 X Y (.agg [li a, li b, li c, li d]) (.agg [li a', li b', li c', li d']) ((a == a' && b == b') && (c == c' && d == d')) := by
  constructor
  intro w S σ n u v hu hv
  rw [rect_of hu, rect_of hv]
  exact ⟨run_eqGuard_agg w .eql _ X Y _ _ (by kernel_rfl), by rw [run_eql_struct, eqRect]; rfl⟩

theorem pfx1 : pfx (leavesC (.mk 5 0 0 0 ⟨#[]⟩ ⟨#[]⟩ [cmpE 7 0 1, cmpE 11 1 2])) [0] = [[I 1, I 1, .str ⟨#[]⟩]] := by
  have hv : validV 1 1 ⟨#[]⟩ = true := by simp [validV, emptyB]
  simp [cmpE, leavesC, leavesCL, andB, emptyB, condE, condV, inSet, coreV, cdOfA, someA, noneA, hv, pfx, isEq, Cd.val]
theorem pfx2 : pfx (leavesC (cmpE 11 1 2)) [0] = [] := by
  have hv : validV 1 2 ⟨#[]⟩ = true := by simp [validV, emptyB]
  simp [cmpE, leavesC, leavesCL, andB, emptyB, condE, condV, inSet, coreV, cdOfA, someA, noneA, hv, pfx, isEq, Cd.val]

abbrev e1 : Ex := .mk 5 0 0 0 ⟨#[]⟩ ⟨#[]⟩ [cmpE 7 0 1, cmpE 11 1 2]
theorem leavesC1 : (leaves e1).length ≤ 1099511627776 := by
  have hv : validV 1 1 ⟨#[]⟩ = true := by simp [validV, emptyB]
  have hv' : validV 1 2 ⟨#[]⟩ = true := by simp [validV, emptyB]
  rw [leaves_cd]
  simp [cmpE, leavesC, leavesCL, andB, emptyB, condE, condV, inSet, coreV, cdOfA, someA, noneA, hv, hv']
theorem leavesC2 : (leaves (cmpE 11 1 2)).length ≤ 1099511627776 := by
  have hv' : validV 1 2 ⟨#[]⟩ = true := by simp [validV, emptyB]
  rw [leaves_cd]
  simp [cmpE, leavesC, leavesCL, andB, emptyB, condE, condV, inSet, coreV, cdOfA, someA, noneA, hv']
theorem ch1 (nm cols fo ch : PV) : AFunR Try.prog 15 [tabA nm cols [0] fo ch, .agg (pvs e1.row), .agg [li 0, li 0, li 0], per 0 1099511627776] (fun r => r = pathP 1 (.vs 3 [[I 1, I 1, .str ⟨#[]⟩]]) 0 0 0 0) := by
  have h := c_choose nm cols [0] fo ch e1 0 0 0 0 1099511627776 (by simp [Ex.fits, fitsL, cmpE]) leavesC1 (by decide)
  rw [pfx1] at h
  exact h
theorem ch2 (nm cols fo ch : PV) : AFunR Try.prog 15 [tabA nm cols [0] fo ch, .agg (pvs (cmpE 11 1 2).row), .agg [li 1, li 40, li 0], per 3 7] (fun r => r = pathP 3 .nils 3 7 40 41) := by
  have h := c_choose nm cols [0] fo ch (cmpE 11 1 2) 1 40 0 3 7 (by simp [Ex.fits, fitsL, cmpE]) leavesC2 (by decide)
  rw [pfx2] at h
  exact h
theorem cost1 : AFunR Try.prog 17 [pathA 1 [[I 1, I 1, .str ⟨#[]⟩]] 0 0 0 0, .i 100] (fun r => r = .i 7) := c_cost 1 [[I 1, I 1, .str ⟨#[]⟩]] 0 0 0 0 100 (by decide)

set_option maxRecDepth 20000 in
theorem c_awake : AFunR Try.prog 13 [] (fun r => r = .b true) := by
  refine afun_body T_ok mixed Try.func13 rfl (ent_of Try.func13 rfl rfl) (Nat.le_of_ble_eq_true rfl) ?_
  repeat' (first | exact True.intro | apply And.intro | (intro h; exact Bool.noConfusion h) | exact ok_op (by kernel_rfl) | exact ok_tr (by kernel_rfl) | intro _ | refine Exists.intro _ (And.intro (c_compare _ _ _).afun (And.intro rfl ?_)) | refine Exists.intro _ (And.intro (ch1 _ _ _ _).afun (And.intro rfl ?_)) | refine Exists.intro _ (And.intro (ch2 _ _ _ _).afun (And.intro rfl ?_)) | refine callR_of_fun cost1.afun rfl ?_ | refine Exists.intro _ (And.intro (eq_rect _ _ _ _ _ _ _ _ _ _) ?_) | refine Exists.intro _ (And.intro (by decide) (And.intro rfl (And.intro rfl ?_))) | refine @Exists.intro Bool _ false ?_ | apply fin_b | refine @Exists.intro Bool _ true ?_ | refine @Exists.intro Way _ .call ?_)

  all_goals rfl

end Go.Proofs.Ytijjagkeaehhbaa.Eng
