/- That the reference's test of a name has one answer for each string. Each function's arguments and the stated bounds are its condition. -/
import Derived.Test.YtijjagkeaehhbaaAnk
import Derived.Test.YtijjagkeaehhbaaAnl
set_option linter.unusedSimpArgs false
set_option linter.unusedVariables false
namespace Go.Proofs.Ytijjagkeaehhbaa.Eng
open Go.RowKit (Below)

def okC (c : UInt8) : Prop := ((c.toNat : Int) ≥ 97 ∧ (c.toNat : Int) ≤ 122) ∨ ((c.toNat : Int) ≥ 48 ∧ (c.toNat : Int) ≤ 57) ∨ (c.toNat : Int) = 95
def badName (t : ByteArray) : Prop := t.size = 0 ∨ (t.toList == (⟨#[]⟩ : ByteArray).toList) = true ∨ t.size > 24 ∨ (∃ c, t[((0 : Nat) : Int).toNat]? = some c ∧ (c.toNat : Int) ≥ 48 ∧ (c.toNat : Int) ≤ 57) ∨ ∃ (j : Nat) (c : UInt8), t[((j : Nat) : Int).toNat]? = some c ∧ ¬ okC c
set_option maxHeartbeats 1000000 in
theorem c_nameX (t : ByteArray) : ∃ b, AFunR Try.prog 80 [.pv (.str t)] (fun r => r = .b b) := by
  obtain ⟨rows, hw, hr1, hr2⟩ := words_ex
  have hin := c_inX rows t hr1 (Nat.le_of_ble_eq_true hr2)
  obtain ⟨b, hb1, hb2⟩ : ∃ b : Bool, (badName t → b = false) ∧ (¬ badName t → b = !(inL t rows)) := by
    by_cases h : badName t
    · exact ⟨false, fun _ => rfl, fun h2 => absurd h h2⟩
    · exact ⟨_, fun h2 => absurd h2 h, fun _ => rfl⟩
  refine ⟨b, ?_⟩
  generalize inL t rows = q at hin hb2
  refine afun_body T_ok mixed Try.func80 rfl (ent_of Try.func80 rfl rfl) (Nat.le_of_ble_eq_true rfl) ?_
  by_cases h0 : t.size = 0
  · have he := toList_empty t h0
    repeat' (first | exact True.intro | apply And.intro | (intro h; exact Bool.noConfusion h) | exact ok_op (by kernel_rfl) | exact ok_tr (by kernel_rfl) | intro _ | apply fin_b | rfl | refine @Exists.intro Bool _ true ?_ | refine @Exists.intro Way _ .call ?_)
    all_goals first
      | exact (hb1 (.inl h0)).symm
      | (exfalso; rw [he] at *; exact absurd ‹true = false› (by decide))
  · obtain ⟨c0, hc0⟩ := byte_at t 0 (by omega)
    repeat' (first | exact True.intro | apply And.intro | (intro h; exact Bool.noConfusion h) | exact ok_op (by kernel_rfl) | exact ok_tr (by kernel_rfl) | intro _ | refine Exists.intro c0 (And.intro (by decide) (And.intro hc0 ?_)) | apply fin_b | rfl | refine @Exists.intro Bool _ true ?_ | refine @Exists.intro Way _ .call ?_)
    all_goals first
      | (refine (hb1 ?_).symm; first
          | exact .inr (.inl ‹(t.toList == (⟨#[]⟩ : ByteArray).toList) = !false›)
          | exact .inr (.inl ‹(t.toList == (⟨#[]⟩ : ByteArray).toList) = true›)
          | exact .inr (.inr (.inl (by have := of_decide_eq_true ‹decide ((t.size : Int) > 24) = true›; omega)))
          | exact .inr (.inr (.inl (by have := of_decide_eq_true ‹decide ((t.size : Int) > 24) = !false›; omega)))
          | exact .inr (.inr (.inr (.inl ⟨c0, hc0, of_decide_eq_true ‹decide ((c0.toNat : Int) ≥ 48) = true›, of_decide_eq_true ‹decide ((c0.toNat : Int) ≤ 57) = true›⟩))))
      | skip
    all_goals
      have ht : t.size ≤ 24 := by have := of_decide_eq_false ‹decide ((t.size : Int) > 24) = false›; omega
      have hd : ¬ ((c0.toNat : Int) ≥ 48 ∧ (c0.toNat : Int) ≤ 57) := by first
        | (have := of_decide_eq_false ‹decide ((c0.toNat : Int) ≥ 48) = false›; omega)
        | (have := of_decide_eq_false ‹decide ((c0.toNat : Int) ≤ 57) = false›; omega)
      refine ⟨fun m st => ∃ j : Nat, j ≤ t.size ∧ (∀ (i : Nat) (c : UInt8), i < j → t[((i : Nat) : Int).toNat]? = some c → okC c) ∧ m = t.size - j ∧ st = AS.on [(0, .pv (.str t)), (3, .i j)] [] 0 54 0 (fun _ => false), ⟨t.size, _, ⟨0, Nat.zero_le _, fun i c hi => absurd hi (Nat.not_lt_zero _), rfl, rfl⟩, ?_⟩, ?_⟩
    all_goals first
      | (refine weak_on rfl rfl rfl rfl ?_ ?_
         repeat' (first | exact True.intro | apply And.intro | (intro h; exact Bool.noConfusion h) | exact ok_op (by kernel_rfl) | exact ok_tr (by kernel_rfl) | intro _ | rfl | refine @Exists.intro Bool _ true ?_ | refine @Exists.intro Way _ .call ?_))
      | (rintro m st ⟨j, hj, hall, rfl, rfl⟩
         by_cases hlt : j < t.size
         · obtain ⟨c, hc⟩ := byte_at t j hlt
           repeat' (first | exact True.intro | apply And.intro | (intro h; exact Bool.noConfusion h) | exact ok_op (by kernel_rfl) | exact ok_tr (by kernel_rfl) | intro _ | refine Exists.intro c (And.intro (Int.natCast_nonneg j) (And.intro hc ?_)) | apply fin_b | rfl | refine @Exists.intro Bool _ true ?_ | refine @Exists.intro Way _ .call ?_)
           all_goals first
             | (exfalso; have := of_decide_eq_false ‹decide ((j : Int) < t.size) = false›; omega)
             | (refine (hb1 (.inr (.inr (.inr (.inr ⟨j, c, hc, ?_⟩))))).symm; clear hb1 hb2 hin hw hall hc hc0 hr1 hr2 h0 hd ht; unfold okC; generalize (c.toNat : Int) = x at *; generalize t.toList = tl at *; simp at *; omega)
             | skip
           all_goals
             have hok : okC c := by clear hb1 hb2 hin hw hall hc hc0 hr1 hr2 h0 hd ht; unfold okC; generalize (c.toNat : Int) = x at *; generalize t.toList = tl at *; simp at *; omega
             refine ⟨t.size - (j + 1), _, by omega, ⟨j + 1, hlt, ?_, rfl, rfl⟩, weak_on rfl rfl rfl rfl ?_ ?_⟩
             · intro i c' hi hc'
               rcases Nat.lt_succ_iff_lt_or_eq.1 hi with h | h
               · exact hall i c' h hc'
               · subst h; rw [hc] at hc'; cases hc'; exact hok
             · repeat' (first | exact True.intro | apply And.intro | (intro h; exact Bool.noConfusion h) | exact ok_op (by kernel_rfl) | exact ok_tr (by kernel_rfl) | intro _ | rfl | (apply fin_i; rw [wrap_id] <;> omega) | refine @Exists.intro Bool _ true ?_ | refine @Exists.intro Way _ .call ?_)
             · repeat' (first | exact True.intro | apply And.intro | (intro h; exact Bool.noConfusion h) | exact ok_op (by kernel_rfl) | exact ok_tr (by kernel_rfl) | intro _ | rfl | refine @Exists.intro Bool _ true ?_ | refine @Exists.intro Way _ .call ?_)
         · have hnb : ¬ badName t := by
             rintro (h | h | h | ⟨c, h1, h2⟩ | ⟨i, c, h1, h2⟩)
             · exact h0 h
             · have h3 := ‹(t.toList == (⟨#[]⟩ : ByteArray).toList) = false›; rw [h] at h3; cases h3
             · omega
             · rw [hc0] at h1; cases h1; exact hd h2
             · have hi : i < t.size := by
                 rcases Nat.lt_or_ge i t.size with h | h
                 · exact h
                 · have : t[((i : Nat) : Int).toNat]? = none := getElem?_neg t i (by omega)
                   rw [this] at h1; cases h1
               exact h2 (hall i c (by omega) h1)
           repeat' (first | exact True.intro | apply And.intro | (intro h; exact Bool.noConfusion h) | exact ok_op (by kernel_rfl) | exact ok_tr (by kernel_rfl) | intro _ | refine callR_of_funR hw rfl ?_ | rfl | refine @Exists.intro Bool _ true ?_ | refine @Exists.intro Way _ .call ?_)
           all_goals first
             | (exfalso; have := of_decide_eq_true ‹decide ((j : Int) < t.size) = true›; omega)
             | skip
           rename_i r hr
           subst hr
           repeat' (first | exact True.intro | apply And.intro | (intro h; exact Bool.noConfusion h) | exact ok_op (by kernel_rfl) | exact ok_tr (by kernel_rfl) | intro _ | refine callR_of_funR hin rfl ?_ | rfl | refine @Exists.intro Bool _ true ?_ | refine @Exists.intro Way _ .call ?_)
           rename_i r2 hr3
           subst hr3
           repeat' (first | exact True.intro | apply And.intro | (intro h; exact Bool.noConfusion h) | exact ok_op (by kernel_rfl) | exact ok_tr (by kernel_rfl) | intro _ | apply fin_b | rfl | refine @Exists.intro Bool _ true ?_ | refine @Exists.intro Way _ .call ?_)
           rw [hb2 hnb])
end Go.Proofs.Ytijjagkeaehhbaa.Eng
