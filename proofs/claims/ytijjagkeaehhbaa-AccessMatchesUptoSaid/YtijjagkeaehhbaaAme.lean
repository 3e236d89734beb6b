/- What both Matches compute, and the law AccessMatches. Each function's arguments are its condition. -/
import Derived.Test.YtijjagkeaehhbaaAmd
set_option linter.unusedSimpArgs false
set_option linter.unusedVariables false
namespace Go.Proofs.Ytijjagkeaehhbaa.Eng
open Go.RowKit (Below)

theorem ne_ifa (X Y : Operand) (t : Nat) (ps : List PV) : EqV Try.prog .neq 94 X Y (.pv (.ifa t ps)) (.pv .nilif) true := by
  constructor
  intro w S σ n u v hu hv
  obtain ⟨vs, rfl, _⟩ := iface_at hu
  have hv' : v = .nilIface := by have := hv.pv_inv; cases this; rfl
  subst hv'
  exact ⟨by kernel_rfl, by kernel_rfl⟩
theorem ne_nilif (X : Operand) (c : Value) : EqV Try.prog .neq 94 X (.const c) (.pv .nilif) (.pv .nilif) false := by
  constructor
  intro w S σ n u v hu hv
  have hu' : u = .nilIface := by have := hu.pv_inv; cases this; rfl
  have hv' : v = .nilIface := by have := hv.pv_inv; cases this; rfl
  subst hu' hv'
  exact ⟨by rw [eqGuard_nil_constR]; rfl, by kernel_rfl⟩
section
variable (nm cols : PV) (ks : List Int) (fo ch : PV) (x y : PV) (row : List Vl) (v0 v1 s0 s1 : Int) (z u : PV)
theorem c_matches (k : Int) (key : List Vl) (a b c d : Int) (hk : ks.length ≤ 1099511627776) (hkey : key.length ≤ 9223372036854775807) :
    AFunR Try.prog 19 [tabA nm cols ks fo ch, pathA k (key.map Vl.row) a b c d, verA x y row v0 v1 s0 s1 z u] (fun r => r = .b (matchesB ks row v0 v1 s0 s1 k key a b c d)) := by
  have hof := c_of k (key.map Vl.row) a b c d
  refine afun_body T_ok mixed Try.func19 rfl (ent_of Try.func19 rfl rfl) (Nat.le_of_ble_eq_true rfl) ?_
  by_cases h0 : k = 0
  · subst h0
    rw [show ofF 0 (key.map Vl.row) a b c d = .pv (.ifa 138 []) from rfl] at hof
    repeat' (first | exact True.intro | apply And.intro | (intro h; exact Bool.noConfusion h) | exact ok_op (by kernel_rfl) | exact ok_tr (by kernel_rfl) | intro _ | refine callR_of_fun hof.afun rfl ?_ | refine Exists.intro _ (And.intro (ne_ifa _ _ _ _) ?_) | refine Exists.intro _ (Exists.intro _ (And.intro m_scan ?_)) | refine callR_of_fun (c_hasScan nm cols ks fo ch x y row v0 v1 s0 s1 z u).afun rfl ?_ | apply fin_b | refine @Exists.intro Bool _ true ?_ | refine @Exists.intro Way _ .call ?_)
    all_goals simp [matchesB]
  by_cases h1 : k = 1
  · subst h1
    rw [show ofF 1 (key.map Vl.row) a b c d = .pv (.ifa 101 [.vs 3 (key.map Vl.row)]) from rfl] at hof
    repeat' (first | exact True.intro | apply And.intro | (intro h; exact Bool.noConfusion h) | exact ok_op (by kernel_rfl) | exact ok_tr (by kernel_rfl) | intro _ | refine callR_of_fun hof.afun rfl ?_ | refine Exists.intro _ (And.intro (ne_ifa _ _ _ _) ?_) | refine Exists.intro _ (Exists.intro _ (And.intro m_keyed ?_)) | refine callR_of_fun (c_hasKeyed nm cols ks fo ch x y row v0 v1 s0 s1 z u key hk hkey).afun rfl ?_ | apply fin_b | refine @Exists.intro Bool _ true ?_ | refine @Exists.intro Way _ .call ?_)
    all_goals simp [matchesB]
  by_cases h2 : k = 2
  · subst h2
    rw [show ofF 2 (key.map Vl.row) a b c d = .pv (.ifa 97 [.int .i64 a, .int .i64 b]) from rfl] at hof
    repeat' (first | exact True.intro | apply And.intro | (intro h; exact Bool.noConfusion h) | exact ok_op (by kernel_rfl) | exact ok_tr (by kernel_rfl) | intro _ | refine callR_of_fun hof.afun rfl ?_ | refine Exists.intro _ (And.intro (ne_ifa _ _ _ _) ?_) | refine Exists.intro _ (Exists.intro _ (And.intro m_valid ?_)) | refine callR_of_fun (c_hasValid nm cols ks fo ch x y row v0 v1 s0 s1 z u a b).afun rfl ?_ | apply fin_b | refine @Exists.intro Bool _ true ?_ | refine @Exists.intro Way _ .call ?_)
    all_goals simp [matchesB]
  by_cases h3 : k = 3
  · subst h3
    rw [show ofF 3 (key.map Vl.row) a b c d = .pv (.ifa 99 [.int .i64 a, .int .i64 b, .int .i64 c, .int .i64 d]) from rfl] at hof
    repeat' (first | exact True.intro | apply And.intro | (intro h; exact Bool.noConfusion h) | exact ok_op (by kernel_rfl) | exact ok_tr (by kernel_rfl) | intro _ | refine callR_of_fun hof.afun rfl ?_ | refine Exists.intro _ (And.intro (ne_ifa _ _ _ _) ?_) | refine Exists.intro _ (Exists.intro _ (And.intro m_rect ?_)) | refine callR_of_fun (c_hasRect nm cols ks fo ch x y row v0 v1 s0 s1 z u a b c d).afun rfl ?_ | apply fin_b | refine @Exists.intro Bool _ true ?_ | refine @Exists.intro Way _ .call ?_)
    all_goals simp [matchesB]
  · rw [show ofF k (key.map Vl.row) a b c d = .pv .nilif from by simp [ofF, h0, h1, h2, h3]] at hof
    repeat' (first | exact True.intro | apply And.intro | (intro h; exact Bool.noConfusion h) | exact ok_op (by kernel_rfl) | exact ok_tr (by kernel_rfl) | intro _ | refine callR_of_fun hof.afun rfl ?_ | refine Exists.intro _ (And.intro (ne_nilif _ _) ?_) | apply fin_b | refine @Exists.intro Bool _ true ?_ | refine @Exists.intro Way _ .call ?_)
    all_goals simp [matchesB, h0, h1, h2, h3]
set_option maxRecDepth 20000 in
theorem c_rmatches (k : Int) (key : List Vl) (a b c d : Int) (hk : ks.length ≤ 1099511627776) (hkey : key.length ≤ 9223372036854775807) :
    AFunR Try.prog 20 [tabA nm cols ks fo ch, pathA k (key.map Vl.row) a b c d, verA x y row v0 v1 s0 s1 z u] (fun r => r = .b (matchesB ks row v0 v1 s0 s1 k key a b c d)) := by
  have hkk := c_rkey nm cols ks fo ch row hk
  have hst := c_starts (keyV row ks) key (by rw [keyV, List.length_map]; omega) hkey
  refine afun_body T_ok mixed Try.func20 rfl (ent_of Try.func20 rfl rfl) (Nat.le_of_ble_eq_true rfl) ?_
  repeat' (first | exact True.intro | apply And.intro | (intro h; exact Bool.noConfusion h) | exact ok_op (by kernel_rfl) | exact ok_tr (by kernel_rfl) | intro _ | refine Exists.intro _ (And.intro hkk.afun (And.intro rfl ?_)) | refine Exists.intro _ (And.intro hst.afun (And.intro rfl ?_)) | refine callR_of_fun (c_roverlaps _ _ _ _).afun rfl ?_ | apply fin_b | rfl | refine @Exists.intro Bool _ true ?_ | refine @Exists.intro Way _ .call ?_)
  all_goals (unfold matchesB; simp_all)

set_option maxRecDepth 20000 in
theorem c_law (k : Int) (key : List Vl) (a b c d : Int) (hk : ks.length ≤ 1099511627776) (hkey : key.length ≤ 9223372036854775807) :
    AFunR Try.prog 5 [tabA nm cols ks fo ch, pathA k (key.map Vl.row) a b c d, verA x y row v0 v1 s0 s1 z u] (fun r => r = .b true) := by
  have h1 := c_matches nm cols ks fo ch x y row v0 v1 s0 s1 z u k key a b c d hk hkey
  have h2 := c_rmatches nm cols ks fo ch x y row v0 v1 s0 s1 z u k key a b c d hk hkey
  generalize matchesB ks row v0 v1 s0 s1 k key a b c d = m at h1 h2
  refine afun_body T_ok mixed Try.func5 rfl (ent_of Try.func5 rfl rfl) (Nat.le_of_ble_eq_true rfl) ?_
  repeat' (first | exact True.intro | apply And.intro | (intro h; exact Bool.noConfusion h) | exact ok_op (by kernel_rfl) | exact ok_tr (by kernel_rfl) | intro _ | refine Exists.intro _ (And.intro h1.afun (And.intro rfl ?_)) | refine Exists.intro _ (And.intro h2.afun (And.intro rfl ?_)) | refine Exists.intro _ (And.intro c_awake.afun (And.intro rfl ?_)) | refine Exists.intro _ (And.intro (eq_bool _ _ _ _) ?_) | apply fin_b | refine @Exists.intro Bool _ true ?_ | refine @Exists.intro Way _ .call ?_)
  all_goals first
    | rfl
    | exact absurd ‹(m == m) = !true› (by simp)
end
end Go.Proofs.Ytijjagkeaehhbaa.Eng
