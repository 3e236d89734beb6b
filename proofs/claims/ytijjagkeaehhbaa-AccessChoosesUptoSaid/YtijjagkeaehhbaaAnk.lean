/- That the reference's tests of a key and of a foreign key return some number. Each function's arguments and the stated bounds are its condition. -/
import Derived.Test.YtijjagkeaehhbaaAnj
set_option linter.unusedSimpArgs false
set_option linter.unusedVariables false
namespace Go.Proofs.Ytijjagkeaehhbaa.Eng
open Go.RowKit (Below)

theorem col_get {cs : List Co} {k : Int} (h0 : 0 ≤ k) (h1 : k < (cs.map Co.row).length) : ∃ n kd z, (cs.map Co.row)[k.toNat]? = some [.str n, I kd, .bool z] := by
  rw [List.length_map] at h1
  have hlt : k.toNat < cs.length := by omega
  exact ⟨cs[k.toNat].n, cs[k.toNat].k, cs[k.toNat].z, by rw [List.getElem?_map, List.getElem?_eq_getElem hlt]; rfl⟩
theorem key_prev {ks : List Int} {j : Nat} (h0 : 0 < j) (h1 : j < ks.length) (hm : ks.length ≤ 1099511627776) : 0 ≤ IntKind.i64.wrap ((j : Int) - 1) ∧ ∃ k, (keyRows ks)[(IntKind.i64.wrap ((j : Int) - 1)).toNat]? = some [I k] := by
  rw [wrap_id (by omega) (by omega)]
  have hlt : ((j : Int) - 1).toNat < ks.length := by omega
  exact ⟨by omega, ks[((j : Int) - 1).toNat], by rw [List.getElem?_map, List.getElem?_eq_getElem hlt]; rfl⟩
attribute [local irreducible] IntKind.wrap
set_option maxHeartbeats 1000000 in
set_option maxRecDepth 20000 in
theorem c_keyT (nm : PV) (cs : List Co) (ks : List Int) (fo ch : PV) (hk : ks.length ≤ 1099511627776) : AFunR Try.prog 82 [tabC nm cs (.vs 1 (keyRows ks)) fo ch] someI := by
  have hlen : (keyRows ks).length = ks.length := List.length_map ..
  refine afun_body T_ok mixed Try.func82 rfl (ent_of Try.func82 rfl rfl) (Nat.le_of_ble_eq_true rfl) ?_
  repeat' (first | exact True.intro | apply And.intro | (intro h; exact Bool.noConfusion h) | exact ok_op (by kernel_rfl) | exact ok_tr (by kernel_rfl) | intro _ | exact ⟨_, rfl⟩ | rfl | refine @Exists.intro Bool _ true ?_ | refine @Exists.intro Way _ .call ?_)
  refine ⟨fun m st => ∃ j : Nat, j ≤ ks.length ∧ m = ks.length - j ∧ st = AS.on [(1, .lv (.ptr 0 0)), (3, .i j)] [(0, .box 27 (tabL nm cs (.vs 1 (keyRows ks)) fo ch))] 1 51 0 (fun _ => false), ⟨ks.length, _, ⟨0, Nat.zero_le _, rfl, rfl⟩, ?_⟩, ?_⟩
  · refine weak_on rfl rfl rfl rfl ?_ ?_
    · repeat' (first | exact True.intro | apply And.intro | (intro h; exact Bool.noConfusion h) | exact ok_op (by kernel_rfl) | exact ok_tr (by kernel_rfl) | intro _ | rfl | refine @Exists.intro Bool _ true ?_ | refine @Exists.intro Way _ .call ?_)
    · repeat' (first | exact True.intro | apply And.intro | (intro h; exact Bool.noConfusion h) | exact ok_op (by kernel_rfl) | exact ok_tr (by kernel_rfl) | intro _ | rfl | refine Exists.intro _ (And.intro rfl ?_) | refine @Exists.intro Bool _ true ?_ | refine @Exists.intro Way _ .call ?_)
  · rintro m st ⟨j, hj, rfl, rfl⟩
    by_cases hlt : j < ks.length
    · obtain ⟨k, hk1⟩ : ∃ k, ks[j]? = some k := ⟨_, List.getElem?_eq_getElem hlt⟩
      have hrow := keyRow_get hk1
      have hex := c_exists nm cs (.vs 1 (keyRows ks)) fo ch k
      generalize hb : (decide (k ≥ 0) && decide (k < (cs.map Co.row).length)) = b at hex
      cases b with
      | false =>
        repeat' (first | exact True.intro | apply And.intro | (intro h; exact Bool.noConfusion h) | exact ok_op (by kernel_rfl) | exact ok_tr (by kernel_rfl) | intro _ | refine Exists.intro _ (And.intro (Int.natCast_nonneg j) (And.intro hrow (And.intro rfl ?_))) | refine Exists.intro _ (And.intro hex.afun (And.intro rfl ?_)) | exact ⟨_, rfl⟩ | rfl | refine @Exists.intro Bool _ true ?_ | refine @Exists.intro Way _ .call ?_)
        all_goals first
          | (exfalso; have := of_decide_eq_false ‹decide ((j : Int) < (keyRows ks).length) = false›; omega)
          | (exfalso; exact absurd ‹(!false) = false› (by decide))
          | (exfalso; exact absurd ‹(!false) = !true› (by decide))
      | true =>
        rw [Bool.and_eq_true, decide_eq_true_eq, decide_eq_true_eq] at hb
        obtain ⟨cn, ckd, cz, hcol⟩ := col_get hb.1 hb.2
        by_cases hj0 : j = 0
        · subst hj0
          repeat' (first | exact True.intro | apply And.intro | (intro h; exact Bool.noConfusion h) | exact ok_op (by kernel_rfl) | exact ok_tr (by kernel_rfl) | intro _ | refine Exists.intro _ (And.intro (Int.natCast_nonneg 0) (And.intro hrow (And.intro rfl ?_))) | refine Exists.intro _ (And.intro hb.1 (And.intro hcol (And.intro rfl ?_))) | refine Exists.intro _ (And.intro hex.afun (And.intro rfl ?_)) | exact ⟨_, rfl⟩ | rfl | refine @Exists.intro Bool _ true ?_ | refine @Exists.intro Way _ .call ?_)
          all_goals first
            | (exfalso; have := of_decide_eq_false ‹decide (((0 : Nat) : Int) < (keyRows ks).length) = false›; omega)
            | (exfalso; have := of_decide_eq_true ‹decide (((0 : Nat) : Int) > 0) = true›; omega)
            | skip
          all_goals
            refine ⟨ks.length - (0 + 1), _, by omega, ⟨0 + 1, hlt, rfl, rfl⟩, weak_on rfl rfl rfl rfl ?_ ?_⟩
            · repeat' (first | exact True.intro | apply And.intro | (intro h; exact Bool.noConfusion h) | exact ok_op (by kernel_rfl) | exact ok_tr (by kernel_rfl) | intro _ | rfl | (apply fin_i; rw [wrap_id] <;> omega) | refine @Exists.intro Bool _ true ?_ | refine @Exists.intro Way _ .call ?_)
            · repeat' (first | exact True.intro | apply And.intro | (intro h; exact Bool.noConfusion h) | exact ok_op (by kernel_rfl) | exact ok_tr (by kernel_rfl) | intro _ | rfl | refine Exists.intro _ (And.intro rfl ?_) | refine @Exists.intro Bool _ true ?_ | refine @Exists.intro Way _ .call ?_)
        · obtain ⟨hp0, kp, hprev⟩ := key_prev (Nat.pos_of_ne_zero hj0) hlt hk
          repeat' (first | exact True.intro | apply And.intro | (intro h; exact Bool.noConfusion h) | exact ok_op (by kernel_rfl) | exact ok_tr (by kernel_rfl) | intro _ | refine Exists.intro _ (And.intro (Int.natCast_nonneg j) (And.intro hrow (And.intro rfl ?_))) | refine Exists.intro _ (And.intro hp0 (And.intro hprev (And.intro rfl ?_))) | refine Exists.intro _ (And.intro hb.1 (And.intro hcol (And.intro rfl ?_))) | refine Exists.intro _ (And.intro hex.afun (And.intro rfl ?_)) | exact ⟨_, rfl⟩ | rfl | refine @Exists.intro Bool _ true ?_ | refine @Exists.intro Way _ .call ?_)
          all_goals first
            | (exfalso; have := of_decide_eq_false ‹decide ((j : Int) < (keyRows ks).length) = false›; omega)
            | skip
          all_goals
            refine ⟨ks.length - (j + 1), _, by omega, ⟨j + 1, hlt, rfl, rfl⟩, weak_on rfl rfl rfl rfl ?_ ?_⟩
            · repeat' (first | exact True.intro | apply And.intro | (intro h; exact Bool.noConfusion h) | exact ok_op (by kernel_rfl) | exact ok_tr (by kernel_rfl) | intro _ | rfl | (apply fin_i; rw [wrap_id] <;> omega) | refine @Exists.intro Bool _ true ?_ | refine @Exists.intro Way _ .call ?_)
            · repeat' (first | exact True.intro | apply And.intro | (intro h; exact Bool.noConfusion h) | exact ok_op (by kernel_rfl) | exact ok_tr (by kernel_rfl) | intro _ | rfl | refine Exists.intro _ (And.intro rfl ?_) | refine @Exists.intro Bool _ true ?_ | refine @Exists.intro Way _ .call ?_)
    · repeat' (first | exact True.intro | apply And.intro | (intro h; exact Bool.noConfusion h) | exact ok_op (by kernel_rfl) | exact ok_tr (by kernel_rfl) | intro _ | exact ⟨_, rfl⟩ | rfl | refine @Exists.intro Bool _ true ?_ | refine @Exists.intro Way _ .call ?_)
      all_goals (exfalso; have := of_decide_eq_true ‹decide ((j : Int) < (keyRows ks).length) = true›; omega)
end Go.Proofs.Ytijjagkeaehhbaa.Eng
