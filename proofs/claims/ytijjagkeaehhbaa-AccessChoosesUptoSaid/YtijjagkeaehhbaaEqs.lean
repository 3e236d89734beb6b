/- What '==' says of two periods, rectangles, values, truth values. No condition. -/
import Derived.Test.YtijjagkeaehhbaaEngW
import Derived.Test.YtijjagkeaehhbaaTab
import Derived.Tactics
import Derived.Tactics2
import Derived.StillTactics
import Derived.Laws.Small
import Derived.Laws.StructEq
import Derived.Laws.Tables
set_option linter.unusedSimpArgs false
set_option linter.unusedVariables false
namespace Go.Proofs.Ytijjagkeaehhbaa.Eng
open Go.RowKit (Below)

abbrev I (n : Int) : PV := .int .i64 n
abbrev li (n : Int) : LV := .pv (.int .i64 n)
abbrev per (a b : Int) : AV := .agg [li a, li b]

theorem int_of {w S σ n k x v} (h : LVR w S σ n (.pv (.int k x)) v) : v = .int k x := by cases h with | pv h => cases h; rfl
theorem str_of {w S σ n x v} (h : LVR w S σ n (.pv (.str x)) v) : v = .string x := by cases h with | pv h => cases h; rfl
theorem agg_of {w S σ n xs v} (h : AVR w S σ n (.agg xs) v) : ∃ vs, v = .agg vs ∧ LsR w S σ n xs vs := by
  cases h with | one h => cases h with | agg h => exact ⟨_, rfl, h⟩
theorem per_of {w S σ n a b v} (h : AVR w S σ n (per a b) v) : v = .agg #[.int .i64 a, .int .i64 b] := by
  obtain ⟨vs, rfl, h1, h2⟩ := agg_of h
  obtain ⟨u0, e0, h0⟩ := h2 0 _ rfl
  obtain ⟨u1, e1, h1'⟩ := h2 1 _ rfl
  rw [int_of h0] at e0
  rw [int_of h1'] at e1
  congr 1
  apply Array.ext
  · simpa using h1
  · intro i hi hj
    match i with
    | 0 => rw [Array.getElem?_eq_getElem hi] at e0; simpa using e0
    | 1 => rw [Array.getElem?_eq_getElem hi] at e1; simpa using e1
    | i + 2 => simp at h1; omega

theorem eqPer (a b c d : Int) (w : World) : (Op.equalIn 10000 35 (.agg #[.int .i64 a, .int .i64 b]) (.agg #[.int .i64 c, .int .i64 d])).run Try.prog w = .ok (a == c && b == d) w := by
  have u3 := Try.underlying3
  have a3 := Try.isAgg3
  have z3 := Try.sizeOf3
  have hS : Try.prog.underlying 35 = some (.struct (Try.prog.fieldsOf 35)) := by kernel_rfl
  have hp : Try.prog.stoodInHeld 35 = false := by kernel_rfl
  rw [show (10000 : Nat) = 9999 + 1 from rfl, run_equalIn_agg w 9999 35 _ _ hS hp]
  simp only [Program.fieldsOf, Try.underlying35]
  go_simp
  by_cases h1 : a = c <;> by_cases h2 : b = d <;> simp [h1, h2]

theorem eq_per (X Y : Operand) (a b c d : Int) : EqV Try.prog .eql 35 X Y (per a b) (per c d) (a == c && b == d) := by
  constructor
  intro w S σ n u v hu hv
  rw [per_of hu, per_of hv]
  exact ⟨run_eqGuard_agg w .eql _ X Y _ _ (by kernel_rfl), by rw [run_eql_struct, eqPer]; rfl⟩
theorem ne_per (X Y : Operand) (a b c d : Int) : EqV Try.prog .neq 35 X Y (per a b) (per c d) (!(a == c && b == d)) := by
  constructor
  intro w S σ n u v hu hv
  rw [per_of hu, per_of hv]
  exact ⟨run_eqGuard_agg w .neq _ X Y _ _ (by kernel_rfl), by rw [run_neq_struct, eqPer]; rfl⟩

theorem bool_of {w S σ n b v} (h : AVR w S σ n (.b b) v) : v = .bool b := h.bool_inv
theorem eq_bool (X Y : Operand) (a b : Bool) : EqV Try.prog .eql 4 X Y (.b a) (.b b) (a == b) := by
  constructor
  intro w S σ n u v hu hv
  rw [bool_of hu, bool_of hv]
  exact ⟨by rfl, run_eql_bool w _ a b (by kernel_rfl)⟩

theorem val_of {w S σ n a b s v} (h : AVR w S σ n (.agg [li a, li b, .pv (.str s)]) v) : v = .agg #[.int .i64 a, .int .i64 b, .string s] := by
  obtain ⟨vs, rfl, h1, h2⟩ := agg_of h
  obtain ⟨u0, e0, h0⟩ := h2 0 _ rfl
  obtain ⟨u1, e1, h1'⟩ := h2 1 _ rfl
  obtain ⟨u2, e2, h2'⟩ := h2 2 _ rfl
  rw [int_of h0] at e0
  rw [int_of h1'] at e1
  rw [str_of h2'] at e2
  congr 1
  apply Array.ext
  · simpa using h1
  · intro i hi hj
    match i with
    | 0 => rw [Array.getElem?_eq_getElem hi] at e0; simpa using e0
    | 1 => rw [Array.getElem?_eq_getElem hi] at e1; simpa using e1
    | 2 => rw [Array.getElem?_eq_getElem hi] at e2; simpa using e2
    | i + 3 => simp at h1; omega
theorem eqVal (a b : Int) (s : ByteArray) (c d : Int) (t : ByteArray) (w : World) : (Op.equalIn 10000 29 (.agg #[.int .i64 a, .int .i64 b, .string s]) (.agg #[.int .i64 c, .int .i64 d, .string t])).run Try.prog w = .ok (a == c && (b == d && s.toList == t.toList)) w := by
  have u3 := Try.underlying3
  have a3 := Try.isAgg3
  have z3 := Try.sizeOf3
  have u9 := Try.underlying9
  have a9 := Try.isAgg9
  have z9 := Try.sizeOf9
  have hS : Try.prog.underlying 29 = some (.struct (Try.prog.fieldsOf 29)) := by kernel_rfl
  have hp : Try.prog.stoodInHeld 29 = false := by kernel_rfl
  rw [show (10000 : Nat) = 9999 + 1 from rfl, run_equalIn_agg w 9999 29 _ _ hS hp]
  simp only [Program.fieldsOf, Try.underlying29]
  go_simp
  by_cases h1 : a = c <;> by_cases h2 : b = d <;> by_cases h3 : s.toList = t.toList <;> simp [h1, h2, h3]
theorem eq_val (X Y : Operand) (a b : Int) (s : ByteArray) (c d : Int) (t : ByteArray) : EqV Try.prog .eql 29 X Y (.agg [li a, li b, .pv (.str s)]) (.agg [li c, li d, .pv (.str t)]) (a == c && (b == d && s.toList == t.toList)) := by
  constructor
  intro w S σ n u v hu hv
  rw [val_of hu, val_of hv]
  exact ⟨run_eqGuard_agg w .eql _ X Y _ _ (by kernel_rfl), by rw [run_eql_struct, eqVal]; rfl⟩
theorem ne_val (X Y : Operand) (a b : Int) (s : ByteArray) (c d : Int) (t : ByteArray) : EqV Try.prog .neq 29 X Y (.agg [li a, li b, .pv (.str s)]) (.agg [li c, li d, .pv (.str t)]) (!(a == c && (b == d && s.toList == t.toList))) := by
  constructor
  intro w S σ n u v hu hv
  rw [val_of hu, val_of hv]
  exact ⟨run_eqGuard_agg w .neq _ X Y _ _ (by kernel_rfl), by rw [run_neq_struct, eqVal]; rfl⟩

end Go.Proofs.Ytijjagkeaehhbaa.Eng
