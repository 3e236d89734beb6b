/- The law AccessCosts: the two costs are alike, for every path whose key is no longer than memory allows and every number of the type. -/
import Derived.Test.YtijjagkeaehhbaaAcg
set_option linter.unusedSimpArgs false
set_option linter.unusedVariables false
namespace Go.Proofs.Ytijjagkeaehhbaa.Eng
open Go.RowKit (Below)

set_option maxRecDepth 20000 in
theorem c_costs (k : Int) (key : List (List PV)) (a b c d n : Int) (hk : key.length ≤ 9223372036854775807) (hn : n ≤ 9223372036854775807) :
    AFunR Try.prog 4 [pathA k key a b c d, .i n] (fun r => r = .b true) := by
  have h1 := c_cost k key a b c d n hk
  have h2 := c_rcost k key a b c d n hk
  rw [← cost_eq k key.length hn] at h2
  generalize costF k key.length n = m at h1 h2
  refine afun_body T_ok mixed Try.func4 rfl (ent_of Try.func4 rfl rfl) (Nat.le_of_ble_eq_true rfl) ?_
  repeat' (first | exact True.intro | apply And.intro | (intro h; exact Bool.noConfusion h) | exact ok_op (by kernel_rfl) | exact ok_tr (by kernel_rfl) | intro _ | refine Exists.intro _ (And.intro h1.afun (And.intro rfl ?_)) | refine Exists.intro _ (And.intro h2.afun (And.intro rfl ?_)) | refine Exists.intro _ (And.intro c_awake.afun (And.intro rfl ?_)) | apply fin_b | refine @Exists.intro Bool _ true ?_)
  all_goals first
    | rfl
    | exact absurd ‹(m == m) = !true› (by simp)

end Go.Proofs.Ytijjagkeaehhbaa.Eng
