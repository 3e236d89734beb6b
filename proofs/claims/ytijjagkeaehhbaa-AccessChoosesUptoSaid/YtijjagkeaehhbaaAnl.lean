/- The reference's list of words, exactly. No condition. -/
import Derived.Test.YtijjagkeaehhbaaAni
set_option linter.unusedSimpArgs false
set_option linter.unusedVariables false
namespace Go.Proofs.Ytijjagkeaehhbaa.Eng
open Go.RowKit (Below)
set_option maxRecDepth 20000 in
theorem words_ex : ∃ rows, AFunR Try.prog 108 [] (fun r => r = .pv (.vs 1 rows)) ∧ rows.all isStr = true ∧ Nat.ble rows.length 1000 = true := by
  refine Exists.intro ?w (And.intro ?a (And.intro ?b ?c))
  case a =>
    refine afun_body T_ok mixed Try.func108 rfl (ent_of Try.func108 rfl rfl) (Nat.le_of_ble_eq_true rfl) ?_
    repeat' (first | exact True.intro | apply And.intro | (intro h; exact Bool.noConfusion h) | exact ok_op (by kernel_rfl) | exact ok_tr (by kernel_rfl) | intro _ | exact rfl | refine @Exists.intro Bool _ true ?_ | refine @Exists.intro Way _ .call ?_)
  case b => exact rfl
  case c => exact rfl
def eqW (s : ByteArray) : List PV → Bool
  | [.str w] => w.toList == s.toList
  | _ => false
def inL (s : ByteArray) : List (List PV) → Bool
  | [] => false
  | r :: l => if eqW s r = true then true else inL s l
theorem c_inX (rows : List (List PV)) (s : ByteArray) (hr : rows.all isStr = true) (hl : rows.length ≤ 1000) : AFunR Try.prog 107 [.pv (.vs 1 rows), .pv (.str s)] (fun r => r = .b (inL s rows)) := by
  refine afun_body T_ok mixed Try.func107 rfl (ent_of Try.func107 rfl rfl) (Nat.le_of_ble_eq_true rfl) ?_
  repeat' (first | exact True.intro | apply And.intro | (intro h; exact Bool.noConfusion h) | exact ok_op (by kernel_rfl) | exact ok_tr (by kernel_rfl) | intro _ | rfl | refine @Exists.intro Bool _ true ?_ | refine @Exists.intro Way _ .call ?_)
  refine ⟨fun m st => ∃ j : Nat, j ≤ rows.length ∧ inL s (rows.drop j) = inL s rows ∧ m = rows.length - j ∧ st = AS.on [(0, .pv (.vs 1 rows)), (1, .pv (.str s)), (5, .i j)] [] 0 18 0 (fun _ => false), ⟨rows.length, _, ⟨0, Nat.zero_le _, rfl, rfl, rfl⟩, ?_⟩, ?_⟩
  · refine weak_on rfl rfl rfl rfl ?_ ?_
    repeat' (first | exact True.intro | apply And.intro | (intro h; exact Bool.noConfusion h) | exact ok_op (by kernel_rfl) | exact ok_tr (by kernel_rfl) | intro _ | rfl | refine @Exists.intro Bool _ true ?_ | refine @Exists.intro Way _ .call ?_)
  · rintro m st ⟨j, hj, heq, rfl, rfl⟩
    by_cases hlt : j < rows.length
    · obtain ⟨w, hrow⟩ := isStr_get hr hlt
      have hrow2 : rows[j]? = some [.str w] := hrow
      rw [drop_get hrow2, inL] at heq
      repeat' (first | exact True.intro | apply And.intro | (intro h; exact Bool.noConfusion h) | exact ok_op (by kernel_rfl) | exact ok_tr (by kernel_rfl) | intro _ | refine Exists.intro _ (And.intro (Int.natCast_nonneg j) (And.intro hrow (And.intro rfl ?_))) | apply fin_b | rfl | refine @Exists.intro Bool _ true ?_ | refine @Exists.intro Way _ .call ?_)
      all_goals first
        | (exfalso; have := of_decide_eq_false ‹decide ((j : Int) < rows.length) = false›; omega)
        | (rw [if_pos (show eqW s [.str w] = true from ‹(w.toList == s.toList) = true›)] at heq; exact heq)
        | skip
      rw [if_neg (show ¬ eqW s [.str w] = true from by have h := ‹(w.toList == s.toList) = false›; show ¬ (w.toList == s.toList) = true; rw [h]; decide)] at heq
      refine ⟨rows.length - (j + 1), _, by omega, ⟨j + 1, hlt, heq, rfl, rfl⟩, weak_on rfl rfl rfl rfl ?_ ?_⟩
      · repeat' (first | exact True.intro | apply And.intro | (intro h; exact Bool.noConfusion h) | exact ok_op (by kernel_rfl) | exact ok_tr (by kernel_rfl) | intro _ | rfl | (apply fin_i; rw [wrap_id] <;> omega) | refine @Exists.intro Bool _ true ?_ | refine @Exists.intro Way _ .call ?_)
      · repeat' (first | exact True.intro | apply And.intro | (intro h; exact Bool.noConfusion h) | exact ok_op (by kernel_rfl) | exact ok_tr (by kernel_rfl) | intro _ | rfl | refine @Exists.intro Bool _ true ?_ | refine @Exists.intro Way _ .call ?_)
    · have hje : j = rows.length := by omega
      rw [hje, List.drop_length, inL] at heq
      repeat' (first | exact True.intro | apply And.intro | (intro h; exact Bool.noConfusion h) | exact ok_op (by kernel_rfl) | exact ok_tr (by kernel_rfl) | intro _ | apply fin_b | rfl | refine @Exists.intro Bool _ true ?_ | refine @Exists.intro Way _ .call ?_)
      all_goals first
        | (exfalso; have := of_decide_eq_true ‹decide ((j : Int) < rows.length) = true›; omega)
        | exact heq
end Go.Proofs.Ytijjagkeaehhbaa.Eng
