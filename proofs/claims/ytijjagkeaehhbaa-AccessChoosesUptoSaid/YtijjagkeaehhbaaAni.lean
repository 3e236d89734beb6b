/- That the reference's test of a name returns some truth value, and what its lookups of columns return. Each function's arguments and the stated bounds are its condition. -/
import Derived.Test.YtijjagkeaehhbaaAnh
set_option linter.unusedSimpArgs false
set_option linter.unusedVariables false
namespace Go.Proofs.Ytijjagkeaehhbaa.Eng
open Go.RowKit (Below)

theorem byte_at (t : ByteArray) (j : Nat) (h : j < t.size) : ∃ c, t[((j : Nat) : Int).toNat]? = some c := by
  have h2 : t[((j : Nat) : Int).toNat]? = t[j]? := rfl
  rw [h2]
  cases h1 : t[j]? with
  | some c => exact ⟨c, rfl⟩
  | none => rw [getElem?_pos t j h] at h1; cases h1
theorem toList_empty (t : ByteArray) (h : t.size = 0) : (t.toList == (⟨#[]⟩ : ByteArray).toList) = true := by
  have : t = ⟨#[]⟩ := by
    obtain ⟨d⟩ := t
    congr 1
    exact Array.eq_empty_of_size_eq_zero h
  rw [this]
  simp
set_option maxHeartbeats 1000000 in
theorem c_name (t : ByteArray) : AFunR Try.prog 80 [.pv (.str t)] someB := by
  refine afun_body T_ok mixed Try.func80 rfl (ent_of Try.func80 rfl rfl) (Nat.le_of_ble_eq_true rfl) ?_
  by_cases h0 : t.size = 0
  · have he := toList_empty t h0
    repeat' (first | exact True.intro | apply And.intro | (intro h; exact Bool.noConfusion h) | exact ok_op (by kernel_rfl) | exact ok_tr (by kernel_rfl) | intro _ | exact ⟨_, rfl⟩ | rfl | refine @Exists.intro Bool _ true ?_ | refine @Exists.intro Way _ .call ?_)
    all_goals (exfalso; rw [he] at *; exact absurd ‹true = false› (by decide))
  · obtain ⟨c0, hc0⟩ := byte_at t 0 (by omega)
    repeat' (first | exact True.intro | apply And.intro | (intro h; exact Bool.noConfusion h) | exact ok_op (by kernel_rfl) | exact ok_tr (by kernel_rfl) | intro _ | refine Exists.intro c0 (And.intro (by decide) (And.intro hc0 ?_)) | exact ⟨_, rfl⟩ | rfl | refine @Exists.intro Bool _ true ?_ | refine @Exists.intro Way _ .call ?_)
    all_goals
      have ht : t.size ≤ 24 := by have := of_decide_eq_false ‹decide ((t.size : Int) > 24) = false›; omega
      refine ⟨fun m st => ∃ j : Nat, j ≤ t.size ∧ m = t.size - j ∧ st = AS.on [(0, .pv (.str t)), (3, .i j)] [] 0 54 0 (fun _ => false), ⟨t.size, _, ⟨0, Nat.zero_le _, rfl, rfl⟩, ?_⟩, ?_⟩
    all_goals first
      | (refine weak_on rfl rfl rfl rfl ?_ ?_
         repeat' (first | exact True.intro | apply And.intro | (intro h; exact Bool.noConfusion h) | exact ok_op (by kernel_rfl) | exact ok_tr (by kernel_rfl) | intro _ | rfl | refine @Exists.intro Bool _ true ?_ | refine @Exists.intro Way _ .call ?_))
      | (rintro m st ⟨j, hj, rfl, rfl⟩
         by_cases hlt : j < t.size
         · obtain ⟨c, hc⟩ := byte_at t j hlt
           repeat' (first | exact True.intro | apply And.intro | (intro h; exact Bool.noConfusion h) | exact ok_op (by kernel_rfl) | exact ok_tr (by kernel_rfl) | intro _ | refine Exists.intro c (And.intro (Int.natCast_nonneg j) (And.intro hc ?_)) | exact ⟨_, rfl⟩ | rfl | refine @Exists.intro Bool _ true ?_ | refine @Exists.intro Way _ .call ?_)
           all_goals first
             | (exfalso; have := of_decide_eq_false ‹decide ((j : Int) < t.size) = false›; omega)
             | skip
           all_goals
             refine ⟨t.size - (j + 1), _, by omega, ⟨j + 1, hlt, rfl, rfl⟩, weak_on rfl rfl rfl rfl ?_ ?_⟩
             · repeat' (first | exact True.intro | apply And.intro | (intro h; exact Bool.noConfusion h) | exact ok_op (by kernel_rfl) | exact ok_tr (by kernel_rfl) | intro _ | rfl | (apply fin_i; rw [wrap_id] <;> omega) | refine @Exists.intro Bool _ true ?_ | refine @Exists.intro Way _ .call ?_)
             · repeat' (first | exact True.intro | apply And.intro | (intro h; exact Bool.noConfusion h) | exact ok_op (by kernel_rfl) | exact ok_tr (by kernel_rfl) | intro _ | rfl | refine @Exists.intro Bool _ true ?_ | refine @Exists.intro Way _ .call ?_)
         · repeat' (first | exact True.intro | apply And.intro | (intro h; exact Bool.noConfusion h) | exact ok_op (by kernel_rfl) | exact ok_tr (by kernel_rfl) | intro _ | refine callR_of_funR c_words rfl ?_ | rfl | refine @Exists.intro Bool _ true ?_ | refine @Exists.intro Way _ .call ?_)
           all_goals first
             | (exfalso; have := of_decide_eq_true ‹decide ((j : Int) < t.size) = true›; omega)
             | skip
           rename_i r hr
           obtain ⟨rows, rfl, hr1, hr2⟩ := hr
           have hin := c_in rows t hr1 (Nat.le_of_ble_eq_true hr2)
           repeat' (first | exact True.intro | apply And.intro | (intro h; exact Bool.noConfusion h) | exact ok_op (by kernel_rfl) | exact ok_tr (by kernel_rfl) | intro _ | refine callR_of_funR hin rfl ?_ | rfl | refine @Exists.intro Bool _ true ?_ | refine @Exists.intro Way _ .call ?_)
           rename_i r2 hr3
           obtain ⟨b, rfl⟩ := hr3
           repeat' (first | exact True.intro | apply And.intro | (intro h; exact Bool.noConfusion h) | exact ok_op (by kernel_rfl) | exact ok_tr (by kernel_rfl) | intro _ | exact ⟨_, rfl⟩ | rfl | refine @Exists.intro Bool _ true ?_ | refine @Exists.intro Way _ .call ?_))
theorem c_exists (nm : PV) (cs : List Co) (key fo ch : PV) (k : Int) : AFunR Try.prog 110 [tabC nm cs key fo ch, .i k] (fun r => r = .b (decide (k ≥ 0) && decide (k < (cs.map Co.row).length))) := by
  refine afun_body T_ok mixed Try.func110 rfl (ent_of Try.func110 rfl rfl) (Nat.le_of_ble_eq_true rfl) ?_
  repeat' (first | exact True.intro | apply And.intro | (intro h; exact Bool.noConfusion h) | exact ok_op (by kernel_rfl) | exact ok_tr (by kernel_rfl) | intro _ | apply fin_b | refine @Exists.intro Bool _ true ?_ | refine @Exists.intro Way _ .call ?_)
  all_goals (simp_all; try omega)
end Go.Proofs.Ytijjagkeaehhbaa.Eng
