/- What both Matches compute, and the law AccessMatches. Each function's arguments are its condition. And what follows in this text; each statement bears its conditions. -/
import Derived.Test.YtijjagkeaehhbaaGreatKcl
import Derived.ChangeArms
import Derived.ChangeSlices
import Derived.ChangeOld
import Derived.Test.YtijjagkeaehhbaaGreatRows
/- What both Matches compute, and the law AccessMatches. Each function's arguments are its condition. -/
set_option linter.unusedSimpArgs false
set_option linter.unusedVariables false
namespace Go.Proofs.YtijjagkeaehhbaaGreat.Eng
open Go.RowKit (Below)

theorem ne_ifa (X Y : Operand) (t : Nat) (ps : List PV) : EqV Tryz.prog .neq 75 X Y (.pv (.ifa t ps)) (.pv .nilif) true := by
  constructor
  intro w S σ n u v hu hv
  obtain ⟨vs, rfl, _⟩ := iface_at hu
  have hv' : v = .nilIface := by have := hv.pv_inv; cases this; rfl
  subst hv'
  exact ⟨by kernel_rfl, by kernel_rfl⟩
theorem ne_nilif (X : Operand) (c : Value) : EqV Tryz.prog .neq 75 X (.const c) (.pv .nilif) (.pv .nilif) false := by
  constructor
  intro w S σ n u v hu hv
  have hu' : u = .nilIface := by have := hu.pv_inv; cases this; rfl
  have hv' : v = .nilIface := by have := hv.pv_inv; cases this; rfl
  subst hu' hv'
  exact ⟨by rw [eqGuard_nil_constR]; rfl, by kernel_rfl⟩
section
variable (nm cols : PV) (ks : List Int) (fo ch : PV) (x y : PV) (row : List Vl) (v0 v1 s0 s1 : Int) (z u : PV)
theorem c_matches (k : Int) (key : List Vl) (a b c d : Int) (hk : ks.length ≤ 1099511627776) (hkey : key.length ≤ 9223372036854775807) :
    AFunR Tryz.prog 12 [tabA nm cols ks fo ch, pathA k (key.map Vl.row) a b c d, verA x y row v0 v1 s0 s1 z u] (fun r => r = .b (matchesB ks row v0 v1 s0 s1 k key a b c d)) := by
  have hof := c_of k (key.map Vl.row) a b c d
  refine afun_body T_ok mixed Tryz.func12 rfl (ent_of Tryz.func12 rfl rfl) (Nat.le_of_ble_eq_true rfl) ?_
  by_cases h0 : k = 0
  · subst h0
    rw [show ofF 0 (key.map Vl.row) a b c d = .pv (.ifa 125 []) from rfl] at hof
    repeat' (first | exact True.intro | apply And.intro | (intro h; exact Bool.noConfusion h) | exact ok_op (by kernel_rfl) | exact ok_tr (by kernel_rfl) | intro _ | refine callR_of_fun hof.afun rfl ?_ | refine Exists.intro _ (And.intro (ne_ifa _ _ _ _) ?_) | refine Exists.intro _ (Exists.intro _ (And.intro m_scan ?_)) | refine callR_of_fun (c_hasScan nm cols ks fo ch x y row v0 v1 s0 s1 z u).afun rfl ?_ | apply fin_b | refine @Exists.intro Bool _ true ?_ | refine @Exists.intro Way _ .call ?_)
    all_goals simp [matchesB]
  by_cases h1 : k = 1
  · subst h1
    rw [show ofF 1 (key.map Vl.row) a b c d = .pv (.ifa 115 [.vs 3 (key.map Vl.row)]) from rfl] at hof
    repeat' (first | exact True.intro | apply And.intro | (intro h; exact Bool.noConfusion h) | exact ok_op (by kernel_rfl) | exact ok_tr (by kernel_rfl) | intro _ | refine callR_of_fun hof.afun rfl ?_ | refine Exists.intro _ (And.intro (ne_ifa _ _ _ _) ?_) | refine Exists.intro _ (Exists.intro _ (And.intro m_keyed ?_)) | refine callR_of_fun (c_hasKeyed nm cols ks fo ch x y row v0 v1 s0 s1 z u key hk hkey).afun rfl ?_ | apply fin_b | refine @Exists.intro Bool _ true ?_ | refine @Exists.intro Way _ .call ?_)
    all_goals simp [matchesB]
  by_cases h2 : k = 2
  · subst h2
    rw [show ofF 2 (key.map Vl.row) a b c d = .pv (.ifa 110 [.int .i64 a, .int .i64 b]) from rfl] at hof
    repeat' (first | exact True.intro | apply And.intro | (intro h; exact Bool.noConfusion h) | exact ok_op (by kernel_rfl) | exact ok_tr (by kernel_rfl) | intro _ | refine callR_of_fun hof.afun rfl ?_ | refine Exists.intro _ (And.intro (ne_ifa _ _ _ _) ?_) | refine Exists.intro _ (Exists.intro _ (And.intro m_valid ?_)) | refine callR_of_fun (c_hasValid nm cols ks fo ch x y row v0 v1 s0 s1 z u a b).afun rfl ?_ | apply fin_b | refine @Exists.intro Bool _ true ?_ | refine @Exists.intro Way _ .call ?_)
    all_goals simp [matchesB]
  by_cases h3 : k = 3
  · subst h3
    rw [show ofF 3 (key.map Vl.row) a b c d = .pv (.ifa 113 [.int .i64 a, .int .i64 b, .int .i64 c, .int .i64 d]) from rfl] at hof
    repeat' (first | exact True.intro | apply And.intro | (intro h; exact Bool.noConfusion h) | exact ok_op (by kernel_rfl) | exact ok_tr (by kernel_rfl) | intro _ | refine callR_of_fun hof.afun rfl ?_ | refine Exists.intro _ (And.intro (ne_ifa _ _ _ _) ?_) | refine Exists.intro _ (Exists.intro _ (And.intro m_rect ?_)) | refine callR_of_fun (c_hasRect nm cols ks fo ch x y row v0 v1 s0 s1 z u a b c d).afun rfl ?_ | apply fin_b | refine @Exists.intro Bool _ true ?_ | refine @Exists.intro Way _ .call ?_)
    all_goals simp [matchesB]
  · rw [show ofF k (key.map Vl.row) a b c d = .pv .nilif from by simp [ofF, h0, h1, h2, h3]] at hof
    repeat' (first | exact True.intro | apply And.intro | (intro h; exact Bool.noConfusion h) | exact ok_op (by kernel_rfl) | exact ok_tr (by kernel_rfl) | intro _ | refine callR_of_fun hof.afun rfl ?_ | refine Exists.intro _ (And.intro (ne_nilif _ _) ?_) | apply fin_b | refine @Exists.intro Bool _ true ?_ | refine @Exists.intro Way _ .call ?_)
    all_goals simp [matchesB, h0, h1, h2, h3]
set_option maxRecDepth 20000 in
theorem c_rmatches (k : Int) (key : List Vl) (a b c d : Int) (hk : ks.length ≤ 1099511627776) (hkey : key.length ≤ 9223372036854775807) :
    AFunR Tryz.prog 45 [tabA nm cols ks fo ch, pathA k (key.map Vl.row) a b c d, verA x y row v0 v1 s0 s1 z u] (fun r => r = .b (matchesB ks row v0 v1 s0 s1 k key a b c d)) := by
  have hkk := c_rkey nm cols ks fo ch row hk
  have hst := c_starts (keyV row ks) key (by rw [keyV, List.length_map]; omega) hkey
  refine afun_body T_ok mixed Tryz.func45 rfl (ent_of Tryz.func45 rfl rfl) (Nat.le_of_ble_eq_true rfl) ?_
  repeat' (first | exact True.intro | apply And.intro | (intro h; exact Bool.noConfusion h) | exact ok_op (by kernel_rfl) | exact ok_tr (by kernel_rfl) | intro _ | refine Exists.intro _ (And.intro hkk.afun (And.intro rfl ?_)) | refine Exists.intro _ (And.intro hst.afun (And.intro rfl ?_)) | refine callR_of_fun (c_roverlaps _ _ _ _).afun rfl ?_ | apply fin_b | rfl | refine @Exists.intro Bool _ true ?_ | refine @Exists.intro Way _ .call ?_)
  all_goals (unfold matchesB; simp_all)

end
end Go.Proofs.YtijjagkeaehhbaaGreat.Eng

/- AccessComplete returns true for every table, expression, clause, period and version within the stated bounds. -/
set_option linter.unusedSimpArgs false
set_option linter.unusedVariables false
namespace Go.Proofs.YtijjagkeaehhbaaGreat.Eng
open Go.RowKit (Below)

def badFit (row : List Vl) (ks : List Int) (i : Nat) : Prop := ∃ v k, row[i]? = some v ∧ ks[i]? = some k ∧ (validV v.k v.i v.t = false ∨ (v.k ≠ 0 ∧ v.k ≠ k))
set_option maxHeartbeats 2000000 in
set_option maxRecDepth 20000 in
theorem c_rfits (row : List Vl) (ks : List Int) (hr : row.length ≤ 1099511627776) : ∃ b, AFunR Tryz.prog 53 [vlA row, intsA ks] (fun r => r = .b b) := by
  have hlr : (row.map Vl.row).length = row.length := List.length_map ..
  have hlk : (keyRows ks).length = ks.length := List.length_map ..
  by_cases hne : row.length = ks.length
  · obtain ⟨b, h1, h2⟩ : ∃ b : Bool, ((∃ i, badFit row ks i) → b = false) ∧ ((¬ ∃ i, badFit row ks i) → b = true) := by
      by_cases h : ∃ i, badFit row ks i
      · exact ⟨false, fun _ => rfl, fun h' => absurd h h'⟩
      · exact ⟨true, fun h' => absurd h' h, fun _ => rfl⟩
    refine ⟨b, ?_⟩
    refine afun_body T_ok mixed Tryz.func53 rfl (ent_of Tryz.func53 rfl rfl) (Nat.le_of_ble_eq_true rfl) ?_
    repeat' (first | exact True.intro | apply And.intro | (intro h; exact Bool.noConfusion h) | exact ok_op (by kernel_rfl) | exact ok_tr (by kernel_rfl) | intro _ | apply fin_b | rfl | refine @Exists.intro Bool _ true ?_ | refine @Exists.intro Way _ .call ?_)
    all_goals first
      | (exfalso; have := bne_iff_ne.1 ‹(((row.map Vl.row).length : Int) != (keyRows ks).length) = true›; omega)
      | skip
    refine ⟨fun m st => ∃ j : Nat, j ≤ row.length ∧ (∀ i, i < j → ¬ badFit row ks i) ∧ m = row.length - j ∧ st = AS.on [(0, vlA row), (1, intsA ks), (5, .i j)] [] 0 43 0 (fun _ => false), ⟨row.length, _, ⟨0, Nat.zero_le _, fun i hi => absurd hi (Nat.not_lt_zero _), rfl, rfl⟩, ?_⟩, ?_⟩
    · refine weak_on rfl rfl rfl rfl ?_ ?_
      repeat' (first | exact True.intro | apply And.intro | (intro h; exact Bool.noConfusion h) | exact ok_op (by kernel_rfl) | exact ok_tr (by kernel_rfl) | intro _ | rfl | refine @Exists.intro Bool _ true ?_ | refine @Exists.intro Way _ .call ?_)
    · rintro m st ⟨j, hj, hall, rfl, rfl⟩
      by_cases hlt : j < row.length
      · obtain ⟨x, hx⟩ : ∃ x, row[j]? = some x := ⟨_, List.getElem?_eq_getElem hlt⟩
        obtain ⟨k, hk⟩ : ∃ k, ks[j]? = some k := ⟨_, List.getElem?_eq_getElem (by omega)⟩
        have hrow := vlRow_get hx
        have hrk := keyRow_get hk
        have hbad : (validV x.k x.i x.t = false ∨ (x.k ≠ 0 ∧ x.k ≠ k)) → b = false := fun h => h1 ⟨j, x, k, hx, hk, h⟩
        have hgood : ¬ (validV x.k x.i x.t = false ∨ (x.k ≠ 0 ∧ x.k ≠ k)) → ∀ i, i < j + 1 → ¬ badFit row ks i := by
          intro h i hi
          rcases Nat.lt_succ_iff_lt_or_eq.1 hi with h' | h'
          · exact hall i h'
          · subst h'
            rintro ⟨v, k', h3, h4, h5⟩
            rw [hx] at h3
            rw [hk] at h4
            cases h3
            cases h4
            exact h h5
        obtain ⟨xk, xi, xt⟩ := x
        have hv := c_rvvalid xk xi xt
        clear h1 h2
        replace hbad : (validV xk xi xt = false ∨ (xk ≠ 0 ∧ xk ≠ k)) → b = false := hbad
        replace hgood : ¬ (validV xk xi xt = false ∨ (xk ≠ 0 ∧ xk ≠ k)) → ∀ i, i < j + 1 → ¬ badFit row ks i := hgood
        generalize validV xk xi xt = q at hv hbad hgood
        repeat' (first | exact True.intro | apply And.intro | (intro h; exact Bool.noConfusion h) | exact ok_op (by kernel_rfl) | exact ok_tr (by kernel_rfl) | intro _ | refine Exists.intro _ (And.intro (Int.natCast_nonneg j) (And.intro hrow (And.intro rfl ?_))) | refine Exists.intro _ (And.intro (Int.natCast_nonneg j) (And.intro hrk (And.intro rfl ?_))) | refine Exists.intro _ (And.intro hv.afun (And.intro rfl ?_)) | apply fin_b | rfl | refine @Exists.intro Bool _ true ?_ | refine @Exists.intro Way _ .call ?_)
        all_goals first
          | (exfalso; have := of_decide_eq_false ‹decide ((j : Int) < (row.map Vl.row).length) = false›; omega)
          | (refine (hbad ?_).symm; clear hbad hgood hv hrow hrk hx hk; grind)
          | skip
        all_goals
          refine ⟨row.length - (j + 1), _, by omega, ⟨j + 1, hlt, hgood (by clear hbad hgood hv hrow hrk hx hk; grind), rfl, rfl⟩, weak_on rfl rfl rfl rfl ?_ ?_⟩
          · repeat' (first | exact True.intro | apply And.intro | (intro h; exact Bool.noConfusion h) | exact ok_op (by kernel_rfl) | exact ok_tr (by kernel_rfl) | intro _ | rfl | (apply fin_i; rw [wrap_id] <;> omega) | refine @Exists.intro Bool _ true ?_ | refine @Exists.intro Way _ .call ?_)
          · repeat' (first | exact True.intro | apply And.intro | (intro h; exact Bool.noConfusion h) | exact ok_op (by kernel_rfl) | exact ok_tr (by kernel_rfl) | intro _ | rfl | refine @Exists.intro Bool _ true ?_ | refine @Exists.intro Way _ .call ?_)
      · repeat' (first | exact True.intro | apply And.intro | (intro h; exact Bool.noConfusion h) | exact ok_op (by kernel_rfl) | exact ok_tr (by kernel_rfl) | intro _ | apply fin_b | rfl | refine @Exists.intro Bool _ true ?_ | refine @Exists.intro Way _ .call ?_)
        all_goals first
          | (exfalso; have := of_decide_eq_true ‹decide ((j : Int) < (row.map Vl.row).length) = true›; omega)
          | (refine (h2 ?_).symm
             rintro ⟨i, h⟩
             obtain ⟨v, k, h3, _⟩ := id h
             have := (List.getElem?_eq_some_iff.1 h3).1
             exact hall i (by omega) h)
  · refine ⟨false, ?_⟩
    refine afun_body T_ok mixed Tryz.func53 rfl (ent_of Tryz.func53 rfl rfl) (Nat.le_of_ble_eq_true rfl) ?_
    repeat' (first | exact True.intro | apply And.intro | (intro h; exact Bool.noConfusion h) | exact ok_op (by kernel_rfl) | exact ok_tr (by kernel_rfl) | intro _ | apply fin_b | rfl | refine @Exists.intro Bool _ true ?_ | refine @Exists.intro Way _ .call ?_)
    all_goals (exfalso; have := ‹(((row.map Vl.row).length : Int) != (keyRows ks).length) = false›; rw [bne_eq_false_iff_eq] at this; omega)
abbrev verP (x y : PV) (row : List Vl) (v0 v1 s0 s1 : Int) (z u : PV) : List PV := [x, y, .vs 3 (row.map Vl.row), I v0, I v1, I s0, I s1, z, u]
set_option maxHeartbeats 2000000 in
set_option maxRecDepth 20000 in
theorem c_rsound (nm : ByteArray) (cs : List Co) (ks : List Int) (fo : List Fo) (ch : List Ex) (x y : PV) (row : List Vl) (v0 v1 s0 s1 : Int) (z u : PV) (hks : ks.length ≤ 1099511627776) (hcs : cs.length ≤ 1099511627776) (hfo : ∀ f ∈ fo, foOk f) (hch : slimL ch) (hr : row.length ≤ 1099511627776) :
    AFunR Tryz.prog 23 [tabC (.str nm) cs (.vs 1 (keyRows ks)) (.vs 2 (fo.map Fo.row)) (.vs 7 (exRows ch)), .pv (.vs 9 [verP x y row v0 v1 s0 s1 z u])] someB := by
  have h13 := c_check13 nm cs ks fo ch hks hcs hfo hch
  have hkinds := c_kinds (.str nm) cs (.vs 1 (keyRows ks)) (.vs 2 (fo.map Fo.row)) (.vs 7 (exRows ch)) hcs
  obtain ⟨fb, hfit⟩ := c_rfits row (cs.map Co.k) hr
  have hrow0 : ([verP x y row v0 v1 s0 s1 z u] : List (List PV))[((0 : Nat) : Int).toNat]? = some (verP x y row v0 v1 s0 s1 z u) := rfl
  refine afun_body T_ok mixed Tryz.func23 rfl (ent_of Tryz.func23 rfl rfl) (Nat.le_of_ble_eq_true rfl) ?_
  repeat' (first | exact True.intro | apply And.intro | (intro h; exact Bool.noConfusion h) | exact ok_op (by kernel_rfl) | exact ok_tr (by kernel_rfl) | intro _ | refine callR_of_someI h13 rfl ?_ | exact ⟨_, rfl⟩ | rfl | refine @Exists.intro Bool _ true ?_ | refine @Exists.intro Way _ .call ?_)
  refine ⟨fun m st => ∃ j : Nat, j ≤ 1 ∧ m = 1 - j ∧ st = AS.on [(1, .pv (.vs 9 [verP x y row v0 v1 s0 s1 z u])), (2, .lv (.ptr 0 0)), (5, .i j)] [(0, .box 27 (tabL (.str nm) cs (.vs 1 (keyRows ks)) (.vs 2 (fo.map Fo.row)) (.vs 7 (exRows ch))))] 1 70 0 (fun _ => false), ⟨1, _, ⟨0, Nat.zero_le _, rfl, rfl⟩, ?_⟩, ?_⟩
  · refine weak_on rfl rfl rfl rfl ?_ ?_
    · repeat' (first | exact True.intro | apply And.intro | (intro h; exact Bool.noConfusion h) | exact ok_op (by kernel_rfl) | exact ok_tr (by kernel_rfl) | intro _ | rfl | refine @Exists.intro Bool _ true ?_ | refine @Exists.intro Way _ .call ?_)
    · repeat' (first | exact True.intro | apply And.intro | (intro h; exact Bool.noConfusion h) | exact ok_op (by kernel_rfl) | exact ok_tr (by kernel_rfl) | intro _ | rfl | refine Exists.intro _ (And.intro rfl ?_) | refine @Exists.intro Bool _ true ?_ | refine @Exists.intro Way _ .call ?_)
  · rintro m st ⟨j, hj, rfl, rfl⟩
    by_cases hlt : j < 1
    · obtain rfl : j = 0 := by omega
      repeat' (first | exact True.intro | apply And.intro | (intro h; exact Bool.noConfusion h) | exact ok_op (by kernel_rfl) | exact ok_tr (by kernel_rfl) | intro _ | refine Exists.intro _ (And.intro (Int.natCast_nonneg 0) (And.intro hrow0 (And.intro rfl ?_))) | refine Exists.intro _ (And.intro hkinds.afun (And.intro rfl ?_)) | refine Exists.intro _ (And.intro hfit.afun (And.intro rfl ?_)) | refine Exists.intro _ (And.intro (c_rvalid _ _).afun (And.intro rfl ?_)) | exact ⟨_, rfl⟩ | rfl | refine @Exists.intro Bool _ true ?_ | refine @Exists.intro Way _ .call ?_)
      all_goals first
        | (exfalso; exact absurd (of_decide_eq_false ‹decide (((0 : Nat) : Int) < ([verP x y row v0 v1 s0 s1 z u] : List (List PV)).length) = false›) (by simp))
        | skip
      all_goals
        refine ⟨fun m st => m = 0 ∧ st = AS.on [(1, .pv (.vs 9 [verP x y row v0 v1 s0 s1 z u])), (2, .lv (.ptr 0 0)), (5, .i ((0 : Nat) : Int)), (6, .i 0)] [(0, .box 27 (tabL (.str nm) cs (.vs 1 (keyRows ks)) (.vs 2 (fo.map Fo.row)) (.vs 7 (exRows ch))))] 1 70 0 (fun _ => false), ⟨0, _, ⟨rfl, rfl⟩, ?_⟩, ?_⟩
        · refine weak_on rfl rfl rfl rfl ?_ ?_
          · repeat' (first | exact True.intro | apply And.intro | (intro h; exact Bool.noConfusion h) | exact ok_op (by kernel_rfl) | exact ok_tr (by kernel_rfl) | intro _ | rfl | refine @Exists.intro Bool _ true ?_ | refine @Exists.intro Way _ .call ?_)
          · repeat' (first | exact True.intro | apply And.intro | (intro h; exact Bool.noConfusion h) | exact ok_op (by kernel_rfl) | exact ok_tr (by kernel_rfl) | intro _ | rfl | refine Exists.intro _ (And.intro rfl ?_) | refine @Exists.intro Bool _ true ?_ | refine @Exists.intro Way _ .call ?_)
        · rintro m st ⟨rfl, rfl⟩
          repeat' (first | exact True.intro | apply And.intro | (intro h; exact Bool.noConfusion h) | exact ok_op (by kernel_rfl) | exact ok_tr (by kernel_rfl) | intro _ | rfl | refine @Exists.intro Bool _ true ?_ | refine @Exists.intro Way _ .call ?_)
          all_goals first
            | (exfalso; exact absurd (of_decide_eq_true ‹decide ((0 : Int) < ((0 : Nat) : Int)) = true›) (by simp))
            | skip
          all_goals
            refine ⟨1 - (0 + 1), _, by omega, ⟨0 + 1, by omega, rfl, rfl⟩, weak_on rfl rfl rfl rfl ?_ ?_⟩
            · repeat' (first | exact True.intro | apply And.intro | (intro h; exact Bool.noConfusion h) | exact ok_op (by kernel_rfl) | exact ok_tr (by kernel_rfl) | intro _ | rfl | (apply fin_i; rw [wrap_id] <;> omega) | refine @Exists.intro Bool _ true ?_ | refine @Exists.intro Way _ .call ?_)
            · repeat' (first | exact True.intro | apply And.intro | (intro h; exact Bool.noConfusion h) | exact ok_op (by kernel_rfl) | exact ok_tr (by kernel_rfl) | intro _ | rfl | refine Exists.intro _ (And.intro rfl ?_) | refine @Exists.intro Bool _ true ?_ | refine @Exists.intro Way _ .call ?_)
    · obtain rfl : j = 1 := by omega
      repeat' (first | exact True.intro | apply And.intro | (intro h; exact Bool.noConfusion h) | exact ok_op (by kernel_rfl) | exact ok_tr (by kernel_rfl) | intro _ | exact ⟨_, rfl⟩ | rfl | refine @Exists.intro Bool _ true ?_ | refine @Exists.intro Way _ .call ?_)
      all_goals (exfalso; exact absurd (of_decide_eq_true ‹decide (((1 : Nat) : Int) < ([verP x y row v0 v1 s0 s1 z u] : List (List PV)).length) = true›) (by simp))
theorem c_usable (nm : ByteArray) (cs : List Co) (ks : List Int) (fo : List Fo) (ch : List Ex) (x y : PV) (row : List Vl) (v0 v1 s0 s1 : Int) (z u : PV) (hks : ks.length ≤ 1099511627776) (hcs : cs.length ≤ 1099511627776) (hfo : ∀ f ∈ fo, foOk f) (hch : slimL ch) (hr : row.length ≤ 1099511627776) :
    AFunR Tryz.prog 7 [tabC (.str nm) cs (.vs 1 (keyRows ks)) (.vs 2 (fo.map Fo.row)) (.vs 7 (exRows ch)), .pv (.vs 9 [verP x y row v0 v1 s0 s1 z u])] someB := by
  have hs := c_rsound nm cs ks fo ch x y row v0 v1 s0 s1 z u hks hcs hfo hch hr
  refine afun_body T_ok mixed Tryz.func7 rfl (ent_of Tryz.func7 rfl rfl) (Nat.le_of_ble_eq_true rfl) ?_
  repeat' (first | exact True.intro | apply And.intro | (intro h; exact Bool.noConfusion h) | exact ok_op (by kernel_rfl) | exact ok_tr (by kernel_rfl) | intro _ | refine callR_of_someB hs rfl ?_ | exact ⟨_, rfl⟩ | rfl | refine @Exists.intro Bool _ true ?_ | refine @Exists.intro Way _ .call ?_)
theorem c_rtruthE (row : List Vl) (hr : row.length ≤ 1099511627776) (e : Ex) (he : e.slim) : AFunR Tryz.prog 11 [.agg (pvs e.row), vlA row] (fun r => ∃ t : Int, r = .i t ∧ (t = 2 → ∀ c ∈ leavesC e, holdsC row c)) := by
  have hev := c_reval row hr (SizeOf.sizeOf e + 1) e he (Nat.lt_succ_self _)
  have hQ : ∀ v, evR row e v → (truthV v = 2 → ∀ c ∈ leavesC e, holdsC row c) := fun v h ht => true_conds he h ht
  generalize evR row e = R at hev hQ
  generalize (∀ c ∈ leavesC e, holdsC row c) = G at hQ ⊢
  obtain ⟨xo, xn, xk, xi, xt, xs, xa⟩ := e
  refine afun_body T_ok mixed Tryz.func11 rfl (ent_of Tryz.func11 rfl rfl) (Nat.le_of_ble_eq_true rfl) ?_
  repeat' (first | exact True.intro | apply And.intro | (intro h; exact Bool.noConfusion h) | exact ok_op (by kernel_rfl) | exact ok_tr (by kernel_rfl) | intro _ | refine callR_of_funR hev rfl ?_ | rfl | refine @Exists.intro Bool _ true ?_ | refine @Exists.intro Way _ .call ?_)
  rename_i r hr
  obtain ⟨⟨k, i, t⟩, rfl, hv⟩ := hr
  have ht := c_rtruth ⟨k, i, t⟩
  have hq := hQ _ hv
  generalize truthV ⟨k, i, t⟩ = T0 at ht hq
  repeat' (first | exact True.intro | apply And.intro | (intro h; exact Bool.noConfusion h) | exact ok_op (by kernel_rfl) | exact ok_tr (by kernel_rfl) | intro _ | refine callR_of_fun ht.afun rfl ?_ | exact ⟨_, rfl, hq⟩ | rfl | refine @Exists.intro Bool _ true ?_ | refine @Exists.intro Way _ .call ?_)
theorem callR_of_truth {P : Program} {g : Nat} {args : List AV} {G : Prop} (h : AFunR P g args (fun r => ∃ t : Int, r = .i t ∧ (t = 2 → G))) (hp : aids args = []) {s : AS} {R : AV → AS → Prop} (hR : ∀ t : Int, (t = 2 → G) → R (.i t) s) : CallR P g args s R :=
  callR_of_funR h hp fun r ⟨n, hn, hg⟩ => by subst hn; exact hR n hg
set_option maxHeartbeats 2000000 in
set_option maxRecDepth 20000 in
theorem c_complete (nm : ByteArray) (cs : List Co) (ks : List Int) (fo : List Fo) (ch : List Ex) (e : Ex) (k a b d0 d1 : Int) (x y : Int) (row : List Vl) (v0 v1 s0 s1 : Int) (z u : Int) (hks : ks.length ≤ 1099511627776) (hcs : cs.length ≤ 1099511627776) (hfo : ∀ f ∈ fo, foOk f) (hch : slimL ch) (he : e.slim) (hb : (leaves e).length ≤ 1099511627776) (hr : row.length ≤ 1099511627776) :
    AFunR Tryz.prog 3 [tabC (.str nm) cs (.vs 1 (keyRows ks)) (.vs 2 (fo.map Fo.row)) (.vs 7 (exRows ch)), .agg (pvs e.row), .agg [li k, li a, li b], per d0 d1, verA (I x) (I y) row v0 v1 s0 s1 (I z) (I u)] (fun r => r = .b true) := by
  have hch0 := c_chosen nm cs ks fo ch e d0 d1 hks hcs hfo hch he
  have hus := c_usable nm cs ks fo ch (I x) (I y) row v0 v1 s0 s1 (I z) (I u) hks hcs hfo hch hr
  have hsys := c_rsystem k a b
  have hto := c_rtruthE row hr e he
  have h1 := c_choose (.str nm) (.vs 3 (cs.map Co.row)) ks (.vs 2 (fo.map Fo.row)) (.vs 7 (exRows ch)) e k a b d0 d1 (slim_fits e he) hb hks
  obtain ⟨key, hkey, hlen⟩ := pfx_vl (leavesC e) ks
  have hst : (∀ c ∈ leavesC e, holdsC row c) → startsB (keyV row ks) key = true := fun hall => starts_of hall hkey
  rw [hkey] at h1
  generalize sysF k a b = sy at hsys h1
  obtain ⟨k', key', a', b', c', d', hl', hw, hm⟩ := choose_path2 ks row v0 v1 s0 s1 sy d0 d1 key
  replace h1 := h1.wk hw
  have h2 := c_matches (.str nm) (.vs 3 (cs.map Co.row)) ks (.vs 2 (fo.map Fo.row)) (.vs 7 (exRows ch)) (I x) (I y) row v0 v1 s0 s1 (I z) (I u) k' key' a' b' c' d' hks (by omega)
  have ho1 := c_roverlaps s0 s1 sy.1 sy.2
  have ho2 := c_roverlaps v0 v1 d0 d1
  clear hw hkey
  generalize (∀ c ∈ leavesC e, holdsC row c) = G at hto hst
  generalize matchesB ks row v0 v1 s0 s1 k' key' a' b' c' d' = m at h2 hm
  generalize overB s0 s1 sy.1 sy.2 = q1 at ho1 hm
  generalize overB v0 v1 d0 d1 = q2 at ho2 hm
  generalize startsB (keyV row ks) key = q3 at hst hm
  obtain ⟨sy0, sy1⟩ := sy
  obtain ⟨xo, xn, xk, xi, xt, xs, xa⟩ := e
  refine afun_body T_ok mixed Tryz.func3 rfl (ent_of Tryz.func3 rfl rfl) (Nat.le_of_ble_eq_true rfl) ?_
  repeat' (first | exact True.intro | apply And.intro | (intro h; exact Bool.noConfusion h) | exact ok_op (by kernel_rfl) | exact ok_tr (by kernel_rfl) | intro _ | refine callR_of_someB hch0 rfl ?_ | refine callR_of_someB hus rfl ?_ | refine callR_of_fun hsys.afun rfl ?_ | refine callR_of_fun ho1.afun rfl ?_ | refine callR_of_fun ho2.afun rfl ?_ | refine callR_of_truth hto rfl ?_ | refine Exists.intro _ (And.intro h1.afun (And.intro rfl ?_)) | refine Exists.intro _ (And.intro h2.afun (And.intro rfl ?_)) | refine Exists.intro _ (And.intro c_awake.afun (And.intro rfl ?_)) | refine callR_of_fun c_awake.afun rfl ?_ | refine @Exists.intro Bool _ false ?_ | apply fin_b | rfl | refine @Exists.intro Bool _ true ?_ | refine @Exists.intro Way _ .call ?_)
  have e1 : q1 = true := by have := ‹(!q1) = false›; simpa using this
  have e2 : q2 = true := by have := ‹(!q2) = false›; simpa using this
  have e3 := hm e2 e1 (hst (‹_ = (2 : Int) → G› (by have := ‹(_ != (2 : Int)) = false›; simpa using this)))
  have e4 := ‹m = !true›
  rw [e3] at e4
  cases e4
end Go.Proofs.YtijjagkeaehhbaaGreat.Eng

/- Readings: what the cells of a handed datum say, as pure values. Each statement bears its conditions. -/
set_option linter.unusedSimpArgs false
set_option linter.unusedVariables false
namespace Go.Proofs.YtijjagkeaehhbaaGreat.Eng
open Go.RowKit (Below)
open Go.ChangeShapes Go.WideShapes

/-- The kinds of a type's cells. -/
inductive CK where
  | int (k : IntKind)
  | bool
  | str
  | sl (e sz : Nat)
def flatFs (P : Program) (g : Nat → Option (List CK)) : List Field → Nat → Option (List CK)
  | [], _ => some []
  | f :: r, o => bif Nat.beq f.offset o then
      match g f.type, flatFs P g r (o + P.cellsOf f.type) with
      | some a, some b => bif Nat.beq a.length (P.cellsOf f.type) then some (a ++ b) else none
      | _, _ => none
    else none
/-- A type's cells; L: the types that slices may have for elements. -/
def flatK (P : Program) (L : List Nat) : Nat → Nat → Option (List CK)
  | 0, _ => none
  | n + 1, t => match P.underlying t with
    | some (.int k) => some [.int k]
    | some .bool => some [.bool]
    | some .string => some [.str]
    | some (.slice e) => bif memb e L && Nat.ble 1 (P.cellsOf e) then some [.sl e (P.cellsOf e)] else none
    | some (.struct fs) => match flatFs P (flatK P L n) fs.toList 0 with
      | some ks => bif Nat.beq ks.length (P.cellsOf t) then some ks else none
      | none => none
    | _ => none
def allFlat (P : Program) (L : List Nat) (N : Nat) : List Nat → Bool
  | [] => true
  | e :: r => (flatK P L N e).isSome && allFlat P L N r

/-- Cells that are as their kinds say. -/
inductive Shp (P : Program) (L : List Nat) (N : Nat) : List CK → List PV → Prop where
  | nil : Shp P L N [] []
  | int {k n ks ps} (hw : (Lit.int k n).wf = true) (r : Shp P L N ks ps) : Shp P L N (.int k :: ks) (.int k n :: ps)
  | bool {b ks ps} (r : Shp P L N ks ps) : Shp P L N (.bool :: ks) (.bool b :: ps)
  | str {s ks ps} (hs : s.size ≤ maxLen) (r : Shp P L N ks ps) : Shp P L N (.str :: ks) (.str s :: ps)
  | sl {e sz ke rows ks ps} (hk : flatK P L N e = some ke) (hl : rows.length ≤ maxLen) (hn : ∀ r ∈ rows, r.length = sz) (h : ∀ r ∈ rows, Shp P L N ke r) (r : Shp P L N ks ps) : Shp P L N (.sl e sz :: ks) (.vs sz rows :: ps)
theorem Shp.append {P : Program} {L : List Nat} {N : Nat} {a b : List CK} {p q : List PV} (h : Shp P L N a p) (h' : Shp P L N b q) : Shp P L N (a ++ b) (p ++ q) := by
  induction h with
  | nil => exact h'
  | int hw r ih => exact .int hw ih
  | bool r ih => exact .bool ih
  | str hs r ih => exact .str hs ih
  | sl hk hl hn h r _ ih => exact .sl hk hl hn h ih
theorem Shp.length {P : Program} {L : List Nat} {N : Nat} {a : List CK} {p : List PV} (h : Shp P L N a p) : p.length = a.length := by
  induction h with
  | nil => rfl
  | int hw r ih => simp [ih]
  | bool r ih => simp [ih]
  | str hs r ih => simp [ih]
  | sl hk hl hn h r _ ih => simp [ih]

theorem allFlat_spec {P : Program} {L : List Nat} {N : Nat} : ∀ {M : List Nat}, allFlat P L N M = true → ∀ e ∈ M, ∃ ke, flatK P L N e = some ke
  | [], _, e, he => by cases he
  | x :: r, h, e, he => by
    simp only [allFlat, Bool.and_eq_true] at h
    rcases List.mem_cons.1 he with rfl | he
    · exact Option.isSome_iff_exists.1 h.1
    · exact allFlat_spec h.2 e he

mutual
/-- How much a pure value holds. -/
def bulkP : PV → Nat
  | .str s => s.size + 1
  | .vs _ rows => bulkRs rows + 1
  | _ => 1
def bulkPs : List PV → Nat
  | [] => 0
  | p :: r => bulkP p + bulkPs r
def bulkRs : List (List PV) → Nat
  | [] => 0
  | r :: l => bulkPs r + bulkRs l
end
theorem bulkPs_append : ∀ a b : List PV, bulkPs (a ++ b) = bulkPs a + bulkPs b
  | [], b => by simp [bulkPs]
  | p :: r, b => by rw [List.cons_append, bulkPs, bulkPs, bulkPs_append r b, Nat.add_assoc]
/-- A measure of what is read. -/
structure Mu {H : Type} (μ : DataW H → Nat) : Prop where
  lit : ∀ l, 1 ≤ μ (.lit l)
  str : ∀ l : List UInt8, l.length + 1 ≤ μ (.lit (.string l))
  nil : 1 ≤ μ .nil
  slice : ∀ e s, (e.map μ).sum + 1 ≤ μ (.slice e s)
  agg : ∀ l, (l.map μ).sum ≤ μ (.agg l)
theorem bulk_rows {β : Type} (f : β → Nat) (g : Nat → List PV) : ∀ (l : List β) (k : Nat), (∀ (i : Nat) y, l[i]? = some y → bulkPs (g (k + i)) ≤ f y) → bulkRs ((List.range' k l.length).map g) ≤ (l.map f).sum
  | [], k, _ => by simp [bulkRs]
  | y :: l, k, h => by
    rw [List.length_cons, List.range'_succ, List.map_cons, bulkRs, List.map_cons, List.sum_cons]
    have h0 := h 0 y rfl
    have h1 := bulk_rows f g l (k + 1) fun i z hz => by
      have := h (i + 1) z (by simpa using hz)
      rwa [show k + (i + 1) = k + 1 + i from by omega] at this
    simp only [Nat.add_zero] at h0
    omega

/-- The old blocks. -/
abbrev Old (w : World) : Nat → Prop := fun b => b < w.heap.size
def CellsR (w : World) (ps : List PV) (cs : List Value) : Prop := ps.length = cs.length ∧ ∀ (i : Nat) (p : PV) (v : Value), ps[i]? = some p → cs[i]? = some v → PVR w (Old w) p v
theorem cellsR_one {w : World} {p : PV} {v : Value} (h : PVR w (Old w) p v) : CellsR w [p] [v] := by
  refine ⟨rfl, fun i q u hq hu => ?_⟩
  match i with
  | 0 => simp at hq hu; subst hq hu; exact h
  | i + 1 => simp at hq
theorem cellsR_append {w : World} {ps qs : List PV} {cs ds : List Value} (h : CellsR w ps cs) (h' : CellsR w qs ds) : CellsR w (ps ++ qs) (cs ++ ds) := by
  refine ⟨by simp [h.1, h'.1], fun i p v hp hv => ?_⟩
  by_cases hi : i < ps.length
  · rw [List.getElem?_append_left hi] at hp
    rw [List.getElem?_append_left (by rw [← h.1]; exact hi)] at hv
    exact h.2 i p v hp hv
  · rw [List.getElem?_append_right (by omega)] at hp
    rw [List.getElem?_append_right (by rw [← h.1]; omega), ← h.1] at hv
    exact h'.2 _ p v hp hv

theorem cell_some {w : World} {a : Addr} {v : Value} (h : w.cell? a = some v) : a.block < w.heap.size ∧ a.spot = none := by
  unfold World.cell? at h
  split at h
  · rename_i c e f hb
    refine ⟨(Array.getElem?_eq_some_iff.1 hb).1, ?_⟩
    split at h
    · cases h
    · rename_i hs
      cases hsp : a.spot with
      | none => rfl
      | some x => rw [hsp] at hs; simp at hs
  · cases h
theorem add_none {a : Addr} (h : a.spot = none) (i j : Nat) : (a.add i).add j = ⟨a.block, a.off + (i + j), none⟩ := by
  obtain ⟨b, o, s⟩ := a
  simp only at h
  subst h
  unfold Addr.add
  by_cases hi : i = 0 <;> by_cases hj : j = 0 <;> simp [hi, hj] <;> omega

section
variable {H : Type} {enc : TypeId × Value → H} {P : Program} {w : World} {base : Nat} {sp : Nat → Bool} {held : Bool} {L : List Nat} {N : Nat} {μ : DataW H → Nat}

theorem read_fs {m : Nat} {g : Nat → Option (List CK)} (cs : List Value) (ih : ∀ (t : TypeId) (ks : List CK) (cs : List Value) (x : DataW H × List MemPlace), g t = some ks → DataW.trod enc P w base sp held m t cs = some x → ∃ ps, Shp P L N ks ps ∧ CellsR w ps cs ∧ bulkPs ps ≤ μ x.1) :
    ∀ (fl : List Field) (o : Nat) (ks : List CK), flatFs P g fl o = some ks → (∀ f ∈ fl, ∃ x, DataW.trod enc P w base sp held m f.type ((cs.drop f.offset).take (P.cellsOf f.type)) = some x) →
      ∃ ps n, Shp P L N ks ps ∧ CellsR w ps ((cs.drop o).take n) ∧ (fl.map fun f => P.cellsOf f.type).sum = n ∧ ps.length = n ∧ bulkPs ps ≤ (fl.map fun f => match DataW.trod enc P w base sp held m f.type ((cs.drop f.offset).take (P.cellsOf f.type)) with | some x => μ x.1 | none => 0).sum
  | [], o, ks, h, _ => by
    simp only [flatFs, Option.some.injEq] at h
    subst h
    exact ⟨[], 0, .nil, ⟨by simp, fun i p v hp => by simp at hp⟩, by simp, rfl, by simp [bulkPs]⟩
  | f :: r, o, ks, h, hx => by
    simp only [flatFs] at h
    cases ho : Nat.beq f.offset o with
    | false => rw [ho] at h; cases h
    | true =>
      rw [ho, cond_true] at h
      split at h
      · rename_i a b ha hb
        cases hlen : Nat.beq a.length (P.cellsOf f.type) with
        | false => rw [hlen] at h; cases h
        | true =>
          rw [hlen, cond_true, Option.some.injEq] at h
          subst h
          have ho' := Nat.eq_of_beq_eq_true ho
          have hlen' := Nat.eq_of_beq_eq_true hlen
          obtain ⟨x, hx1⟩ := hx f (List.mem_cons_self ..)
          obtain ⟨p1, h1, h2, hb1⟩ := ih _ _ _ _ ha hx1
          obtain ⟨p2, n, h3, h4, h5, h6, hb2⟩ := read_fs cs ih r (o + P.cellsOf f.type) b hb fun f hf => hx f (List.mem_cons_of_mem _ hf)
          rw [ho'] at h2
          have hp1 : p1.length = P.cellsOf f.type := by rw [h1.length, hlen']
          refine ⟨p1 ++ p2, P.cellsOf f.type + n, h1.append h3, ?_, by simp [h5], by simp [hp1, h6], ?_⟩
          · rw [List.take_add, List.drop_drop]
            exact cellsR_append h2 h4
          · rw [bulkPs_append, List.map_cons, List.sum_cons, hx1]
            exact Nat.add_le_add hb1 hb2
      · cases h

theorem read (hall : allFlat P L N L = true) (hμ : Mu μ) : ∀ (fuel n : Nat) (t : TypeId) (ks : List CK) (cs : List Value) (x : DataW H × List MemPlace), flatK P L n t = some ks → DataW.trod enc P w base sp held fuel t cs = some x →
    ∃ ps, Shp P L N ks ps ∧ CellsR w ps cs ∧ bulkPs ps ≤ μ x.1
  | 0, n, t, ks, cs, x, _, h => by simp [DataW.trod] at h
  | fuel + 1, 0, t, ks, cs, x, hk, h => by simp [flatK] at hk
  | fuel + 1, n + 1, t, ks, cs, x, hk, h => by
    simp only [flatK] at hk
    split at hk
    · rename_i k ht
      simp only [Option.some.injEq] at hk
      subst hk
      obtain ⟨m, rfl, rfl, hw⟩ := DataW.trod_int ht h
      exact ⟨[.int k m], .int hw .nil, cellsR_one (.int k m), by simpa [bulkPs, bulkP] using hμ.lit _⟩
    · rename_i ht
      simp only [Option.some.injEq] at hk
      subst hk
      obtain ⟨b, rfl, rfl⟩ := DataW.trod_bool ht h
      exact ⟨[.bool b], .bool .nil, cellsR_one (.bool b), by simpa [bulkPs, bulkP] using hμ.lit _⟩
    · rename_i ht
      simp only [Option.some.injEq] at hk
      subst hk
      obtain ⟨s, rfl, rfl, hs⟩ := DataW.trod_string ht h
      refine ⟨[.str s], .str hs .nil, cellsR_one (.str s), ?_⟩
      have := hμ.str s.data.toList
      simp only [bulkPs, bulkP, Nat.add_zero]
      have hl : s.data.toList.length = s.size := by cases s; rfl
      omega
    · rename_i e ht
      cases hc : (memb e L && Nat.ble 1 (P.cellsOf e)) with
      | false => rw [hc] at hk; cases hk
      | true =>
        rw [hc, cond_true, Option.some.injEq] at hk
        subst hk
        rw [Bool.and_eq_true] at hc
        obtain ⟨ke, hke⟩ := allFlat_spec hall e (memb_iff.1 hc.1)
        have hpos : 1 ≤ P.cellsOf e := Nat.le_of_ble_eq_true hc.2
        rcases DataW.trod_slice ht h with ⟨rfl, rfl⟩ | ⟨a, len, cap, elems, rest, m, hm, rfl, rfl, hb, hl, hmx, hlen, hel, _, _⟩
        · refine ⟨[.vs (P.cellsOf e) []], .sl hke (Nat.zero_le _) (fun r hr => by cases hr) (fun r hr => by cases hr) .nil, cellsR_one ?_, by simpa [bulkPs, bulkP, bulkRs] using hμ.nil⟩
          exact .vs _ [] none 0 (fun _ _ => undef) (Nat.le_refl _) (Nat.zero_le _) (fun _ => rfl) (fun r hr => by cases hr) (fun h => absurd rfl h) (fun i j hi => absurd hi (Nat.not_lt_zero _)) (fun i j r p hr => by simp at hr)
        · have hm' : fuel = m := by omega
          subst hm'
          have each : ∀ i, ∃ (row : List PV) (vs : List Value), i < len → Shp P L N ke row ∧ row.length = P.cellsOf e ∧ CellsR w row vs ∧ vs.length = P.cellsOf e ∧ (∀ j, j < P.cellsOf e → w.cell? ((a.add (i * P.cellsOf e)).add j) = vs[j]?) ∧ ∀ y, elems[i]? = some y → bulkPs row ≤ μ y.1 := by
            intro i
            by_cases hi : i < len
            · have h1 := hel i hi
              rw [List.getElem?_eq_getElem (by omega), Option.bind_eq_some_iff] at h1
              obtain ⟨vs, h2, h3⟩ := h1
              obtain ⟨row, h4, h5, hbk⟩ := read hall hμ fuel N e ke vs _ hke h3
              obtain ⟨_, h6, h7⟩ := World.cells?_some h2
              exact ⟨row, vs, fun _ => ⟨h4, by rw [h5.1, h6], h5, h6, h7, fun y hy => by rw [List.getElem?_eq_getElem (by omega)] at hy; cases hy; exact hbk⟩⟩
            · exact ⟨[], [], fun h => absurd h hi⟩
          obtain ⟨g, hg⟩ := Classical.skolem.1 each
          obtain ⟨u, hu⟩ := Classical.skolem.1 hg
          have hrows : ∀ r ∈ (List.range len).map g, ∃ i, i < len ∧ g i = r := by
            intro r hr
            obtain ⟨i, h1, h2⟩ := List.mem_map.1 hr
            exact ⟨i, List.mem_range.1 h1, h2⟩
          have hcell : ∀ i j, i < len → j < P.cellsOf e → w.cell? ((a.add (i * P.cellsOf e)).add j) = some ((u i).getD j undef) := by
            intro i j hi hj
            obtain ⟨_, _, _, h4, h5, _⟩ := hu i hi
            rw [h5 j hj, List.getD_eq_getElem?_getD, List.getElem?_eq_getElem (by omega)]
            rfl
          have hval : ∀ i j, i < len → j < P.cellsOf e → ∃ p, (g i)[j]? = some p ∧ PVR w (Old w) p ((u i).getD j undef) := by
            intro i j hi hj
            obtain ⟨_, h2, h3, h4, _⟩ := hu i hi
            refine ⟨_, List.getElem?_eq_getElem (by omega), h3.2 j _ _ (List.getElem?_eq_getElem (by omega)) ?_⟩
            rw [List.getD_eq_getElem?_getD, List.getElem?_eq_getElem (by omega)]
            rfl
          refine ⟨[.vs (P.cellsOf e) ((List.range len).map g)], .sl hke (by simp; omega) (fun r hr => ?_) (fun r hr => ?_) .nil, cellsR_one ?_, ?_⟩
          · obtain ⟨i, hi, rfl⟩ := hrows r hr
            exact (hu i hi).2.1
          · obtain ⟨i, hi, rfl⟩ := hrows r hr
            exact (hu i hi).1
          · have hlr : ((List.range len).map g).length = len := by simp
            have := PVR.vs (w := w) (S := Old w) (P.cellsOf e) ((List.range len).map g) (some a) cap (fun i j => (u i).getD j undef) (by rw [hlr]; exact hl) hmx (fun h => by cases h) (fun r hr => by obtain ⟨i, hi, rfl⟩ := hrows r hr; exact (hu i hi).2.1)
              (fun hne => by
                have hl0 : 0 < len := by
                  rcases Nat.eq_zero_or_pos len with h0 | h0
                  · subst h0; exact absurd rfl hne
                  · exact h0
                have h0 := hcell 0 0 hl0 hpos
                obtain ⟨hbk, hspot⟩ := cell_some h0
                rw [Nat.zero_mul] at hbk hspot
                have hspot' : a.spot = none := by simpa [Addr.add] using hspot
                have hbk' : a.block < w.heap.size := by simpa [Addr.add] using hbk
                obtain ⟨b, o, s⟩ := a
                simp only at hspot' hbk'
                subst hspot'
                refine ⟨b, o, rfl, hbk', fun i j hi hj => ?_⟩
                rw [hlr] at hi
                rw [← hcell i j hi hj, add_none rfl])
              (fun i j hi hj => by rw [hlr] at hi; exact (hval i j hi hj).choose_spec.2.one)
              (fun i j r p hr hp => by
                rw [List.getElem?_map] at hr
                obtain ⟨i', h1, rfl⟩ := Option.map_eq_some_iff.1 hr
                have hi : i < len := by
                  have := (List.getElem?_eq_some_iff.1 h1).1
                  simpa using this
                have h2 : i' = i := by
                  rw [List.getElem?_range hi] at h1
                  exact (Option.some.inj h1).symm
                subst h2
                have hj : j < P.cellsOf e := by
                  have := (List.getElem?_eq_some_iff.1 hp).1
                  rw [(hu i' hi).2.1] at this
                  exact this
                obtain ⟨q, h3, h4⟩ := hval i' j hi hj
                rw [h3] at hp
                cases hp
                exact h4)
            rw [hlr] at this
            exact this
          · have hb2 := bulk_rows (fun y : DataW H × List MemPlace => μ y.1) g elems 0 fun i y hy => by
              have hi : i < len := by rw [← hlen]; exact (List.getElem?_eq_some_iff.1 hy).1
              rw [Nat.zero_add]
              exact (hu i hi).2.2.2.2.2 y hy
            rw [hlen, ← List.range_eq_range'] at hb2
            have hb3 := hμ.slice (elems.map (·.1)) (rest.map (·.1))
            rw [List.map_map] at hb3
            simp only [bulkPs, bulkP, Nat.add_zero]
            exact Nat.le_trans (Nat.add_le_add_right hb2 1) hb3
    · rename_i fs ht
      split at hk
      case h_2 => cases hk
      rename_i ks' hks
      cases hkl : Nat.beq ks'.length (P.cellsOf t) with
      | false => rw [hkl] at hk; cases hk
      | true =>
      rw [hkl, cond_true, Option.some.injEq] at hk
      subst hk
      have hkl' := Nat.eq_of_beq_eq_true hkl
      obtain ⟨xs, m, hm, rfl, hcl, hxl, hf⟩ := DataW.trod_struct ht h
      have hm' : fuel = m := by omega
      subst hm'
      obtain ⟨ps, k, h1, h2, h3, h4, hbk⟩ := read_fs (μ := μ) (g := flatK P L n) cs (fun t ks cs x => read hall hμ fuel n t ks cs x) fs.toList 0 ks' hks (fun f hfm => by
        obtain ⟨i, hi⟩ := List.getElem?_of_mem hfm
        have hi' : fs[i]? = some f := by simpa using hi
        have hlt : i < xs.length := by
          rw [hxl]
          exact (Array.getElem?_eq_some_iff.1 hi').1
        exact ⟨_, (hf i f hi').trans (List.getElem?_eq_getElem hlt)⟩)
      have hk2 : k = cs.length := by rw [← h4, h1.length, hkl', hcl]
      rw [List.drop_zero, hk2, List.take_length] at h2
      refine ⟨ps, h1, h2, Nat.le_trans hbk ?_⟩
      have hsum : (fs.toList.map fun f => match DataW.trod enc P w base sp held fuel f.type ((cs.drop f.offset).take (P.cellsOf f.type)) with | some x => μ x.1 | none => 0) = (xs.map (·.1)).map μ := by
        rw [List.map_map]
        apply List.ext_getElem?
        intro i
        rw [List.getElem?_map, List.getElem?_map]
        cases hi : fs.toList[i]? with
        | none =>
          have : xs[i]? = none := by
            rw [List.getElem?_eq_none_iff] at hi ⊢
            rw [hxl]
            simpa using hi
          rw [this]
          rfl
        | some f =>
          have hi' : fs[i]? = some f := by simpa using hi
          have hlt : i < xs.length := by
            rw [hxl]
            exact (Array.getElem?_eq_some_iff.1 hi').1
          have h5 := hf i f hi'
          rw [List.getElem?_eq_getElem hlt] at h5 ⊢
          simp only [Option.map_some, h5]
          rfl
      rw [hsum]
      exact hμ.agg _
    · cases hk
theorem cells_avr {ps : List PV} {cs : Array Value} (h : CellsR w ps cs.toList) : AVR w (Old w) (fun _ => undef) 0 (.agg (pvs ps)) (.agg cs) := by
  refine .one (.agg ⟨by rw [(pvs_spec ps).1, h.1, Array.length_toList], fun i x hx => ?_⟩)
  obtain ⟨p, hp, rfl⟩ := (pvs_spec ps).2.1 i x hx
  have hlt : i < cs.size := by have := (List.getElem?_eq_some_iff.1 hp).1; rw [h.1, Array.length_toList] at this; exact this
  refine ⟨_, Array.getElem?_eq_getElem hlt, .pv (h.2 i p _ hp ?_)⟩
  rw [Array.getElem?_toList, Array.getElem?_eq_getElem hlt]
/-- The measure that says nothing. -/
theorem cells_any {ps : List PV} {cs : Array Value} (h : CellsR w ps cs.toList) (S : Nat → Prop) (hS : ∀ b, b < w.heap.size → S b) : LsR w S (fun _ => undef) 0 (pvs ps) cs := by
  refine ⟨by rw [(pvs_spec ps).1, h.1, Array.length_toList], fun i x hx => ?_⟩
  obtain ⟨p, hp, rfl⟩ := (pvs_spec ps).2.1 i x hx
  have hlt : i < cs.size := by have := (List.getElem?_eq_some_iff.1 hp).1; rw [h.1, Array.length_toList] at this; exact this
  refine ⟨_, Array.getElem?_eq_getElem hlt, .pv ((h.2 i p _ hp ?_).mono (fun _ _ => rfl) hS)⟩
  rw [Array.getElem?_toList, Array.getElem?_eq_getElem hlt]
end
end Go.Proofs.YtijjagkeaehhbaaGreat.Eng

/- The bulk of the given rows as a measure of readings, and lists of rows as lists of what they say. Each statement bears its conditions. -/
set_option linter.unusedSimpArgs false
set_option linter.unusedVariables false
namespace Go.Proofs.YtijjagkeaehhbaaGreat.Eng

theorem bulkAll_sum {H : Type} : ∀ l : List (DataW H), Rows.uptoBulkAll l = (l.map Rows.uptoBulk).sum
  | [] => by simp [Rows.uptoBulkAll]
  | d :: r => by rw [Rows.uptoBulkAll, bulkAll_sum r, List.map_cons, List.sum_cons]
theorem mu (H : Type) : Mu (Rows.uptoBulk (H := H)) := by
  refine ⟨fun l => ?_, fun l => by simp [Rows.uptoBulk], by simp [Rows.uptoBulk], fun e s => ?_, fun l => ?_⟩
  · cases l <;> simp [Rows.uptoBulk]
  · rw [Rows.uptoBulk, ← bulkAll_sum]; omega
  · rw [Rows.uptoBulk, ← bulkAll_sum]; omega
theorem bulk_bound {H : Type} {l : List (DataW H)} (hk : Rows.uptoSmall H l = true) : Rows.uptoBulkAll l ≤ 1048576 := of_decide_eq_true hk

theorem bulkP_pos (p : PV) : 1 ≤ bulkP p := by cases p <;> simp [bulkP]
theorem bulkRs_len : ∀ rows : List (List PV), (∀ r ∈ rows, r ≠ []) → rows.length ≤ bulkRs rows
  | [], _ => by simp [bulkRs]
  | r :: l, h => by
    have h1 := bulkRs_len l fun x hx => h x (List.mem_cons_of_mem _ hx)
    have h2 : 1 ≤ bulkPs r := by
      cases r with
      | nil => exact absurd rfl (h [] (List.mem_cons_self ..))
      | cons p q => rw [bulkPs]; have := bulkP_pos p; omega
    rw [bulkRs, List.length_cons]
    omega
theorem map_of {α : Type} (f : α → List PV) : ∀ rows : List (List PV), (∀ r ∈ rows, ∃ x, r = f x) → ∃ l : List α, rows = l.map f
  | [], _ => ⟨[], rfl⟩
  | r :: l, h => by
    obtain ⟨x, hx⟩ := h r (List.mem_cons_self ..)
    obtain ⟨m, hm⟩ := map_of f l fun y hy => h y (List.mem_cons_of_mem _ hy)
    exact ⟨x :: m, by rw [List.map_cons, hx, hm]⟩
theorem rows_ints {P : Program} {L : List Nat} {N : Nat} {rows : List (List PV)} (h : ∀ r ∈ rows, Shp P L N [.int .i64] r) : ∃ ks : List Int, rows = keyRows ks :=
  map_of (fun k => [I k]) rows fun r hr => by
    have := h r hr
    cases this with | @int _ k _ _ _ s => cases s; exact ⟨k, rfl⟩
theorem rows_vals {P : Program} {L : List Nat} {N : Nat} {rows : List (List PV)} (h : ∀ r ∈ rows, Shp P L N [.int .i64, .int .i64, .str] r) : ∃ l : List Vl, rows = l.map Vl.row :=
  map_of Vl.row rows fun r hr => by
    have := h r hr
    cases this with | @int _ k _ _ _ s =>
    cases s with | @int _ i _ _ _ s =>
    cases s with | @str t _ _ _ s =>
    cases s
    exact ⟨⟨k, i, t⟩, rfl⟩
end Go.Proofs.YtijjagkeaehhbaaGreat.Eng

/- Rows of expressions, columns and foreign keys as lists of what they say. Each statement bears its conditions. -/
set_option linter.unusedSimpArgs false
set_option linter.unusedVariables false
namespace Go.Proofs.YtijjagkeaehhbaaGreat.Eng

section
variable {P : Program} {L : List Nat} {N : Nat}
theorem bulkRs_mem : ∀ {rows : List (List PV)} {r : List PV}, r ∈ rows → bulkPs r ≤ bulkRs rows
  | x :: l, r, h => by
    rw [bulkRs]
    rcases List.mem_cons.1 h with rfl | h
    · omega
    · have := bulkRs_mem h; omega
theorem exs_of : ∀ rows : List (List PV), (∀ r ∈ rows, ∃ e : Ex, r = e.row ∧ e.slim ∧ (conjE e).length ≤ bulkPs r) → ∃ l : List Ex, rows = exRows l ∧ slimL l ∧ (conjL l).length ≤ bulkRs rows
  | [], _ => ⟨[], rfl, trivial, Nat.zero_le _⟩
  | r :: l, h => by
    obtain ⟨e, h1, h2, h3⟩ := h r (List.mem_cons_self ..)
    obtain ⟨m, h4, h5, h6⟩ := exs_of l fun x hx => h x (List.mem_cons_of_mem _ hx)
    refine ⟨e :: m, by rw [exRows, h1, h4], ⟨h2, h5⟩, ?_⟩
    rw [conjL, List.length_append, bulkRs]
    omega
abbrev exK (te : Nat) : List CK := [.int .i64, .int .i64, .int .i64, .int .i64, .str, .str, .sl te 7]
theorem ex_of {te : Nat} (hE : flatK P L N te = some (exK te)) : ∀ (m : Nat) (r : List PV), bulkPs r ≤ m → m ≤ 1099511627776 → Shp P L N (exK te) r → ∃ e : Ex, r = e.row ∧ e.slim ∧ (conjE e).length ≤ bulkPs r
  | 0, r, hm, _, s => by
    exfalso
    cases s with | @int _ op _ _ _ s =>
    rw [bulkPs] at hm
    have := bulkP_pos (.int .i64 op)
    omega
  | m + 1, r, hm, hM, s => by
    cases s with | @int _ op _ _ _ s =>
    cases s with | @int _ n _ _ _ s =>
    cases s with | @int _ vk _ _ _ s =>
    cases s with | @int _ vi _ _ _ s =>
    cases s with | @str vt _ _ _ s =>
    cases s with | @str st _ _ _ s =>
    cases s with | @sl _ _ ke rows _ _ hk _ _ hr s =>
    cases s
    rw [hE] at hk
    cases hk
    simp only [bulkPs, bulkP] at hm ⊢
    obtain ⟨args, h1, h2, h3⟩ := exs_of rows fun r hr' => by
      have := bulkRs_mem hr'
      exact ex_of hE m r (by omega) (by omega) (hr r hr')
    have hlen := bulkRs_len rows fun r hr' => by
      have := hr r hr'
      rintro rfl
      cases this
    refine ⟨.mk op n vk vi vt st args, by rw [Ex.row, h1], ⟨?_, h2⟩, ?_⟩
    · rw [← exRows_length args, ← h1]; omega
    · rw [conjE]
      cases (op == 5 && formedB op n vk vi vt st args.length) with
      | true => rw [cond_true]; omega
      | false => rw [cond_false, List.length_singleton]; omega
theorem rows_exs {te : Nat} (hE : flatK P L N te = some (exK te)) (rows : List (List PV)) (hb : bulkRs rows ≤ 1099511627776) (h : ∀ r ∈ rows, Shp P L N (exK te) r) : ∃ l : List Ex, rows = exRows l ∧ slimL l ∧ (conjL l).length ≤ bulkRs rows :=
  exs_of rows fun r hr => ex_of hE (bulkRs rows) r (bulkRs_mem hr) hb (h r hr)
theorem rows_cos {rows : List (List PV)} (h : ∀ r ∈ rows, Shp P L N [.str, .int .i64, .bool] r) : ∃ l : List Co, rows = l.map Co.row :=
  map_of Co.row rows fun r hr => by
    have := h r hr
    cases this with | @str n _ _ _ s =>
    cases s with | @int _ k _ _ _ s =>
    cases s with | @bool z _ _ s =>
    cases s
    exact ⟨⟨n, k, z⟩, rfl⟩
theorem rows_fos {te : Nat} (hE : flatK P L N te = some [.int .i64]) {rows : List (List PV)} (h : ∀ r ∈ rows, Shp P L N [.sl te 1, .str] r) : ∃ l : List Fo, rows = l.map Fo.row :=
  map_of Fo.row rows fun r hr => by
    have := h r hr
    cases this with | @sl _ _ ke kr _ _ hk _ _ hr s =>
    cases s with | @str n _ _ _ s =>
    cases s
    rw [hE] at hk
    cases hk
    obtain ⟨ks, rfl⟩ := rows_ints hr
    exact ⟨⟨ks, n⟩, rfl⟩
theorem keyRows_len (ks : List Int) : ks.length ≤ bulkRs (keyRows ks) := by
  have h3 := bulkRs_len (keyRows ks) fun r hr => by obtain ⟨k, _, rfl⟩ := List.mem_map.1 hr; simp
  rwa [List.length_map] at h3
theorem coRows_len (cs : List Co) : cs.length ≤ bulkRs (cs.map Co.row) := by
  have h3 := bulkRs_len (cs.map Co.row) fun r hr => by obtain ⟨k, _, rfl⟩ := List.mem_map.1 hr; simp [Co.row]
  rwa [List.length_map] at h3
theorem fos_ok (fo : List Fo) (hb : bulkRs (fo.map Fo.row) ≤ 1099511627776) : ∀ f ∈ fo, foOk f := by
  intro f hf
  have h1 := bulkRs_mem (List.mem_map_of_mem (f := Fo.row) hf)
  have h2 := keyRows_len f.c
  have h3 : bulkPs f.row = bulkRs (keyRows f.c) + 1 + (f.n.size + 1 + 0) := rfl
  unfold foOk
  omega
end
end Go.Proofs.YtijjagkeaehhbaaGreat.Eng
