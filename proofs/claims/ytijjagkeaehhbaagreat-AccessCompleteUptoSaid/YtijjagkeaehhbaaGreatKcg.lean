/- What '==' says of two periods, rectangles, values, truth values. No condition. And what follows in this text; each statement bears its conditions. -/
import Derived.Test.YtijjagkeaehhbaaGreatKcf
import Derived.Tactics
import Derived.Tactics2
import Derived.StillTactics
import Derived.Laws.Small
import Derived.Laws.StructEq
import Derived.Laws.Tables
/- What '==' says of two periods, rectangles, values, truth values. No condition. -/
set_option linter.unusedSimpArgs false
set_option linter.unusedVariables false
namespace Go.Proofs.YtijjagkeaehhbaaGreat.Eng
open Go.RowKit (Below)

abbrev I (n : Int) : PV := .int .i64 n
abbrev li (n : Int) : LV := .pv (.int .i64 n)
abbrev per (a b : Int) : AV := .agg [li a, li b]

theorem int_of {w S σ n k x v} (h : LVR w S σ n (.pv (.int k x)) v) : v = .int k x := by cases h with | pv h => cases h; rfl
theorem str_of {w S σ n x v} (h : LVR w S σ n (.pv (.str x)) v) : v = .string x := by cases h with | pv h => cases h; rfl
theorem agg_of {w S σ n xs v} (h : AVR w S σ n (.agg xs) v) : ∃ vs, v = .agg vs ∧ LsR w S σ n xs vs := by
  cases h with | one h => cases h with | agg h => exact ⟨_, rfl, h⟩
theorem per_of {w S σ n a b v} (h : AVR w S σ n (per a b) v) : v = .agg #[.int .i64 a, .int .i64 b] := by
  obtain ⟨vs, rfl, h1, h2⟩ := agg_of h
  obtain ⟨u0, e0, h0⟩ := h2 0 _ rfl
  obtain ⟨u1, e1, h1'⟩ := h2 1 _ rfl
  rw [int_of h0] at e0
  rw [int_of h1'] at e1
  congr 1
  apply Array.ext
  · simpa using h1
  · intro i hi hj
    match i with
    | 0 => rw [Array.getElem?_eq_getElem hi] at e0; simpa using e0
    | 1 => rw [Array.getElem?_eq_getElem hi] at e1; simpa using e1
    | i + 2 => simp at h1; omega

theorem eqPer (a b c d : Int) (w : World) : (Op.equalIn 10000 35 (.agg #[.int .i64 a, .int .i64 b]) (.agg #[.int .i64 c, .int .i64 d])).run Tryz.prog w = .ok (a == c && b == d) w := by
  have u3 := Tryz.underlying3
  have a3 := Tryz.isAgg3
  have z3 := Tryz.sizeOf3
  have hS : Tryz.prog.underlying 35 = some (.struct (Tryz.prog.fieldsOf 35)) := by kernel_rfl
  have hp : Tryz.prog.stoodInHeld 35 = false := by kernel_rfl
  rw [show (10000 : Nat) = 9999 + 1 from rfl, run_equalIn_agg w 9999 35 _ _ hS hp]
  simp only [Program.fieldsOf, Tryz.underlying35]
  go_simp
  by_cases h1 : a = c <;> by_cases h2 : b = d <;> simp [h1, h2]

theorem eq_per (X Y : Operand) (a b c d : Int) : EqV Tryz.prog .eql 35 X Y (per a b) (per c d) (a == c && b == d) := by
  constructor
  intro w S σ n u v hu hv
  rw [per_of hu, per_of hv]
  exact ⟨run_eqGuard_agg w .eql _ X Y _ _ (by kernel_rfl), by rw [run_eql_struct, eqPer]; rfl⟩
theorem ne_per (X Y : Operand) (a b c d : Int) : EqV Tryz.prog .neq 35 X Y (per a b) (per c d) (!(a == c && b == d)) := by
  constructor
  intro w S σ n u v hu hv
  rw [per_of hu, per_of hv]
  exact ⟨run_eqGuard_agg w .neq _ X Y _ _ (by kernel_rfl), by rw [run_neq_struct, eqPer]; rfl⟩

theorem bool_of {w S σ n b v} (h : AVR w S σ n (.b b) v) : v = .bool b := h.bool_inv
theorem eq_bool (X Y : Operand) (a b : Bool) : EqV Tryz.prog .eql 4 X Y (.b a) (.b b) (a == b) := by
  constructor
  intro w S σ n u v hu hv
  rw [bool_of hu, bool_of hv]
  exact ⟨by rfl, run_eql_bool w _ a b (by kernel_rfl)⟩

theorem val_of {w S σ n a b s v} (h : AVR w S σ n (.agg [li a, li b, .pv (.str s)]) v) : v = .agg #[.int .i64 a, .int .i64 b, .string s] := by
  obtain ⟨vs, rfl, h1, h2⟩ := agg_of h
  obtain ⟨u0, e0, h0⟩ := h2 0 _ rfl
  obtain ⟨u1, e1, h1'⟩ := h2 1 _ rfl
  obtain ⟨u2, e2, h2'⟩ := h2 2 _ rfl
  rw [int_of h0] at e0
  rw [int_of h1'] at e1
  rw [str_of h2'] at e2
  congr 1
  apply Array.ext
  · simpa using h1
  · intro i hi hj
    match i with
    | 0 => rw [Array.getElem?_eq_getElem hi] at e0; simpa using e0
    | 1 => rw [Array.getElem?_eq_getElem hi] at e1; simpa using e1
    | 2 => rw [Array.getElem?_eq_getElem hi] at e2; simpa using e2
    | i + 3 => simp at h1; omega
theorem eqVal (a b : Int) (s : ByteArray) (c d : Int) (t : ByteArray) (w : World) : (Op.equalIn 10000 29 (.agg #[.int .i64 a, .int .i64 b, .string s]) (.agg #[.int .i64 c, .int .i64 d, .string t])).run Tryz.prog w = .ok (a == c && (b == d && s.toList == t.toList)) w := by
  have u3 := Tryz.underlying3
  have a3 := Tryz.isAgg3
  have z3 := Tryz.sizeOf3
  have u9 := Tryz.underlying9
  have a9 := Tryz.isAgg9
  have z9 := Tryz.sizeOf9
  have hS : Tryz.prog.underlying 29 = some (.struct (Tryz.prog.fieldsOf 29)) := by kernel_rfl
  have hp : Tryz.prog.stoodInHeld 29 = false := by kernel_rfl
  rw [show (10000 : Nat) = 9999 + 1 from rfl, run_equalIn_agg w 9999 29 _ _ hS hp]
  simp only [Program.fieldsOf, Tryz.underlying29]
  go_simp
  by_cases h1 : a = c <;> by_cases h2 : b = d <;> by_cases h3 : s.toList = t.toList <;> simp [h1, h2, h3]
theorem eq_val (X Y : Operand) (a b : Int) (s : ByteArray) (c d : Int) (t : ByteArray) : EqV Tryz.prog .eql 29 X Y (.agg [li a, li b, .pv (.str s)]) (.agg [li c, li d, .pv (.str t)]) (a == c && (b == d && s.toList == t.toList)) := by
  constructor
  intro w S σ n u v hu hv
  rw [val_of hu, val_of hv]
  exact ⟨run_eqGuard_agg w .eql _ X Y _ _ (by kernel_rfl), by rw [run_eql_struct, eqVal]; rfl⟩
theorem ne_val (X Y : Operand) (a b : Int) (s : ByteArray) (c d : Int) (t : ByteArray) : EqV Tryz.prog .neq 29 X Y (.agg [li a, li b, .pv (.str s)]) (.agg [li c, li d, .pv (.str t)]) (!(a == c && (b == d && s.toList == t.toList))) := by
  constructor
  intro w S σ n u v hu hv
  rw [val_of hu, val_of hv]
  exact ⟨run_eqGuard_agg w .neq _ X Y _ _ (by kernel_rfl), by rw [run_neq_struct, eqVal]; rfl⟩

end Go.Proofs.YtijjagkeaehhbaaGreat.Eng

/- What the small functions of the package access compute. Each function's arguments are its condition. -/
set_option linter.unusedSimpArgs false
set_option linter.unusedVariables false
namespace Go.Proofs.YtijjagkeaehhbaaGreat.Eng
open Go.RowKit (Below)

def validB (x y : Int) : Bool := decide (0 ≤ x) && decide (x < y) && decide (y ≤ 1099511627776)
theorem c_valid (x y : Int) : AFunR Tryz.prog 31 [per x y] (fun r => r = .b (validB x y)) := by
  refine afun_body T_ok mixed Tryz.func31 rfl (ent_of Tryz.func31 rfl rfl) (Nat.le_of_ble_eq_true rfl) ?_
  repeat' (first | exact True.intro | apply And.intro | (intro h; exact Bool.noConfusion h) | intro _ | apply fin_b)
  all_goals (unfold validB; grind)

def sysF (k a b : Int) : Int × Int :=
  if k = 0 then (1099511627775, 1099511627776) else if k = 1 then (a, IntKind.i64.wrap (a + 1)) else if k = 2 then (a, b) else if k = 3 then (a, IntKind.i64.wrap (b + 1)) else if k = 4 then (0, 1099511627776) else (0, 0)
theorem fin_per {a b c d : Int} (h : a = c ∧ b = d) : per a b = per c d := by rw [h.1, h.2]
theorem c_system (k a b : Int) : AFunR Tryz.prog 29 [.agg [li k, li a, li b]] (fun r => r = per (sysF k a b).1 (sysF k a b).2) := by
  refine afun_body T_ok mixed Tryz.func29 rfl (ent_of Tryz.func29 rfl rfl) (Nat.le_of_ble_eq_true rfl) ?_
  repeat' (first | exact True.intro | apply fin_per | apply And.intro | (intro h; exact Bool.noConfusion h) | intro _)
  all_goals (unfold sysF; simp_all)

def mirF (k : Int) : Int := if k = 9 then 11 else if k = 11 then 9 else if k = 10 then 12 else if k = 12 then 10 else k
theorem c_mirrored (k : Int) : AFunR Tryz.prog 149 [.i k] (fun r => r = .i (mirF k)) := by
  refine afun_body T_ok mixed Tryz.func149 rfl (ent_of Tryz.func149 rfl rfl) (Nat.le_of_ble_eq_true rfl) ?_
  repeat' (first | exact True.intro | apply fin_i | apply And.intro | (intro h; exact Bool.noConfusion h) | intro _)
  all_goals (unfold mirF; simp_all)

def partF (n d : Int) : Int := IntKind.i64.wrap (IntKind.i64.wrap (n.tdiv d) + if n.tmod d < 1 then n.tmod d else 1)
theorem c_part (n d : Int) (hd : d ≠ 0) : AFunR Tryz.prog 54 [.i n, .i d] (fun r => r = .i (partF n d)) := by
  refine afun_body T_ok mixed Tryz.func54 rfl (ent_of Tryz.func54 rfl rfl) (Nat.le_of_ble_eq_true rfl) ?_
  repeat' (first | exact True.intro | exact hd | exact ok_op (by kernel_rfl) | exact ok_tr (by kernel_rfl) | apply fin_i | apply And.intro | (intro h; exact Bool.noConfusion h) | intro _)
  all_goals rfl

def upF (n d : Int) : Int := if IntKind.i64.wrap (IntKind.i64.wrap (n.tdiv d) * d) < n then IntKind.i64.wrap (IntKind.i64.wrap (n.tdiv d) + 1) else IntKind.i64.wrap (n.tdiv d)
/-- A path. -/
abbrev pathA (k : Int) (key : List (List PV)) (a b c d : Int) : AV := .agg [li k, .pv (.vs 3 key), li a, li b, li c, li d]
def ofF (k : Int) (key : List (List PV)) (a b c d : Int) : AV :=
  if k = 0 then .pv (.ifa 125 []) else if k = 1 then .pv (.ifa 115 [.vs 3 key]) else if k = 2 then .pv (.ifa 110 [.int .i64 a, .int .i64 b])
  else if k = 3 then .pv (.ifa 113 [.int .i64 a, .int .i64 b, .int .i64 c, .int .i64 d]) else .pv .nilif
theorem pure_scan {ev : Operand → AV} {dst : Option Tmp} {ty : TypeId} {pos : String} {af : Array Edge} {gd : Option (Nat × Bool)} : PureOp Tryz.prog ⟨dst, .build 125 #[], ty, pos, af, gd⟩ ev (.agg []) := by
  constructor
  intro w S σ n ρ hρ
  refine ⟨.agg #[], ?_, .one (.agg ⟨rfl, by simp⟩)⟩
  simp only [execOp]
  refine run_v ?_
  exact run_build w 125 _ _ (by kernel_rfl)
theorem c_of (k : Int) (key : List (List PV)) (a b c d : Int) : AFunR Tryz.prog 28 [pathA k key a b c d] (fun r => r = ofF k key a b c d) := by
  refine afun_body T_ok mixed Tryz.func28 rfl (ent_of Tryz.func28 rfl rfl) (Nat.le_of_ble_eq_true rfl) ?_
  repeat' (first | exact True.intro | apply And.intro | (intro h; exact Bool.noConfusion h) | intro _ | refine ⟨_, pure_scan, ?_⟩ | refine ⟨_, pure_mk rfl rfl (by kernel_rfl), ?_⟩ | refine fin_to (y := .pv (.ifa _ _)) rfl ?_ | refine fin_to (y := .pv .nilif) rfl ?_)
  all_goals (refine ⟨?_⟩; unfold ofF; simp_all)


def partN (n : Int) : Nat → Int
  | 0 => n
  | k + 1 => partF (partN n k) 16
def max0 (n : Int) : Int := if n < 0 then 0 else n
def costF (k : Int) (len : Nat) (n : Int) : Int := if k = 2 then partF (max0 n) 2 else if k = 3 then partF (max0 n) 4 else if k = 1 then partN (max0 n) len else max0 n
theorem c_cost (k : Int) (key : List (List PV)) (a b c d n : Int) (hk : key.length ≤ 9223372036854775807) : AFunR Tryz.prog 25 [pathA k key a b c d, .i n] (fun r => r = .i (costF k key.length n)) := by
  have hof := c_of k key a b c d
  refine afun_body T_ok mixed Tryz.func25 rfl (ent_of Tryz.func25 rfl rfl) (Nat.le_of_ble_eq_true rfl) ?_
  by_cases h0 : k = 0
  · subst h0
    rw [show ofF 0 key a b c d = .pv (.ifa 125 []) from rfl] at hof
    repeat' (first | exact True.intro | apply And.intro | (intro h; exact Bool.noConfusion h) | exact ok_op (by kernel_rfl) | exact ok_tr (by kernel_rfl) | intro _ | refine callR_of_fun hof.afun rfl ?_ | refine callR_of_fun (c_part _ _ (by decide)).afun rfl ?_ | refine ⟨_, pure_hit rfl (by kernel_rfl), ?_⟩ | refine ⟨_, pure_miss T_ok rfl rfl rfl (by kernel_rfl) rfl, ?_⟩ | apply fin_i | refine @Exists.intro Bool _ true ?_ | refine @Exists.intro Way _ .call ?_)
    all_goals (simp [costF, max0])
  by_cases h2 : k = 2
  · subst h2
    rw [show ofF 2 key a b c d = .pv (.ifa 110 [.int .i64 a, .int .i64 b]) from rfl] at hof
    repeat' (first | exact True.intro | apply And.intro | (intro h; exact Bool.noConfusion h) | exact ok_op (by kernel_rfl) | exact ok_tr (by kernel_rfl) | intro _ | refine callR_of_fun hof.afun rfl ?_ | refine callR_of_fun (c_part _ _ (by decide)).afun rfl ?_ | refine ⟨_, pure_hit rfl (by kernel_rfl), ?_⟩ | refine ⟨_, pure_miss T_ok rfl rfl rfl (by kernel_rfl) rfl, ?_⟩ | apply fin_i | refine @Exists.intro Bool _ true ?_ | refine @Exists.intro Way _ .call ?_)
    all_goals (simp [costF, max0])
  by_cases h3 : k = 3
  · subst h3
    rw [show ofF 3 key a b c d = .pv (.ifa 113 [.int .i64 a, .int .i64 b, .int .i64 c, .int .i64 d]) from rfl] at hof
    repeat' (first | exact True.intro | apply And.intro | (intro h; exact Bool.noConfusion h) | exact ok_op (by kernel_rfl) | exact ok_tr (by kernel_rfl) | intro _ | refine callR_of_fun hof.afun rfl ?_ | refine callR_of_fun (c_part _ _ (by decide)).afun rfl ?_ | refine ⟨_, pure_hit rfl (by kernel_rfl), ?_⟩ | refine ⟨_, pure_miss T_ok rfl rfl rfl (by kernel_rfl) rfl, ?_⟩ | apply fin_i | refine @Exists.intro Bool _ true ?_ | refine @Exists.intro Way _ .call ?_)
    all_goals (simp [costF, max0])
  by_cases h1 : k = 1
  · subst h1
    rw [show ofF 1 key a b c d = .pv (.ifa 115 [.vs 3 key]) from rfl] at hof
    repeat' (first | exact True.intro | apply And.intro | (intro h; exact Bool.noConfusion h) | exact ok_op (by kernel_rfl) | exact ok_tr (by kernel_rfl) | intro _ | refine callR_of_fun hof.afun rfl ?_ | refine callR_of_fun (c_part _ _ (by decide)).afun rfl ?_ | refine ⟨_, pure_hit rfl (by kernel_rfl), ?_⟩ | refine ⟨_, pure_miss T_ok rfl rfl rfl (by kernel_rfl) rfl, ?_⟩ | apply fin_i | refine @Exists.intro Bool _ true ?_ | refine @Exists.intro Way _ .call ?_)
    refine ⟨fun m s => ∃ j : Nat, j ≤ key.length ∧ m = key.length - j ∧ s = AS.on [(1, .i (partN (max0 n) j)), (27, .i key.length), (28, .i j)] [] 0 34 0 (fun _ => false), ⟨key.length, _, ⟨0, Nat.zero_le _, rfl, rfl⟩, ?_⟩, ?_⟩
    · refine weak_on rfl rfl rfl rfl ?_ ?_
      repeat' (first | exact True.intro | apply And.intro | (intro h; exact Bool.noConfusion h) | exact ok_op (by kernel_rfl) | exact ok_tr (by kernel_rfl) | intro _ | rfl | refine @Exists.intro Bool _ true ?_ | refine @Exists.intro Way _ .call ?_)
    · rintro m s ⟨j, hj, rfl, rfl⟩
      repeat' (first | exact True.intro | apply And.intro | (intro h; exact Bool.noConfusion h) | exact ok_op (by kernel_rfl) | exact ok_tr (by kernel_rfl) | intro _ | refine callR_of_fun (c_part _ _ (by decide)).afun rfl ?_ | apply fin_i | refine @Exists.intro Bool _ true ?_ | refine @Exists.intro Way _ .call ?_)
      · have hlt : j < key.length := by have := of_decide_eq_true ‹decide ((j : Int) < key.length) = true›; omega
        refine ⟨key.length - (j + 1), _, by omega, ⟨j + 1, hlt, rfl, rfl⟩, weak_on rfl rfl rfl rfl ?_ ?_⟩
        · repeat' (first | exact True.intro | apply And.intro | (intro h; exact Bool.noConfusion h) | exact ok_op (by kernel_rfl) | exact ok_tr (by kernel_rfl) | intro _ | rfl | (apply fin_i; rw [wrap_id] <;> omega) | refine @Exists.intro Bool _ true ?_ | refine @Exists.intro Way _ .call ?_)
        · repeat' (first | exact True.intro | apply And.intro | (intro h; exact Bool.noConfusion h) | exact ok_op (by kernel_rfl) | exact ok_tr (by kernel_rfl) | intro _ | rfl | refine @Exists.intro Bool _ true ?_ | refine @Exists.intro Way _ .call ?_)
      · have hge : j = key.length := by have := of_decide_eq_false ‹decide ((j : Int) < key.length) = false›; omega
        subst hge
        simp [costF]
  · rw [show ofF k key a b c d = .pv .nilif from by simp [ofF, h0, h1, h2, h3]] at hof
    repeat' (first | exact True.intro | apply And.intro | (intro h; exact Bool.noConfusion h) | exact ok_op (by kernel_rfl) | exact ok_tr (by kernel_rfl) | intro _ | refine callR_of_fun hof.afun rfl ?_ | refine callR_of_fun (c_part _ _ (by decide)).afun rfl ?_ | refine ⟨_, pure_nil T_ok rfl rfl rfl (by kernel_rfl), ?_⟩ | apply fin_i | refine @Exists.intro Bool _ true ?_ | refine @Exists.intro Way _ .call ?_)
    all_goals (simp [costF, max0, h1, h2, h3])

def upN (n : Int) : Nat → Int
  | 0 => n
  | k + 1 => upF (upN n k) 16
def rcostF (k : Int) (len : Nat) (n : Int) : Int := if k = 2 then upF (max0 n) 2 else if k = 3 then upF (max0 n) 4 else if k = 1 then upN (max0 n) len else max0 n
theorem up_part {n d : Int} (hn : 0 ≤ n) (hx : n ≤ 9223372036854775807) (hd : 2 ≤ d) (hd' : d ≤ 16) : partF n d = upF n d ∧ 0 ≤ upF n d ∧ upF n d ≤ n := by
  have h1 : n.tdiv d = n / d := Int.tdiv_eq_ediv_of_nonneg hn
  have h2 : n.tmod d = n % d := Int.tmod_eq_emod_of_nonneg hn
  have h3 : 0 ≤ n / d := Int.ediv_nonneg hn (by omega)
  have h4 : n / d ≤ n := Int.ediv_le_self d hn
  have h5 : d * (n / d) + n % d = n := Int.mul_ediv_add_emod n d
  have h6 : 0 ≤ n % d := Int.emod_nonneg n (by omega)
  have h7 : n % d < d := Int.emod_lt_of_pos n (by omega)
  have h8 : 2 * (n / d) ≤ d * (n / d) := Int.mul_le_mul_of_nonneg_right hd h3
  have h9 : n / d * d = d * (n / d) := Int.mul_comm _ _
  unfold partF upF
  rw [h1, h2, wrap_id (n := n / d) (by omega) (by omega), h9, wrap_id (n := d * (n / d)) (by omega) (by omega)]
  by_cases h : n % d < 1
  · rw [if_pos h, if_neg (by omega), wrap_id (by omega) (by omega)]
    omega
  · rw [if_neg h, if_pos (by omega), wrap_id (by omega) (by omega)]
    omega
theorem upN_part {n : Int} (hn : 0 ≤ n) (hx : n ≤ 9223372036854775807) : ∀ k, partN n k = upN n k ∧ 0 ≤ upN n k ∧ upN n k ≤ n
  | 0 => ⟨rfl, hn, Int.le_refl _⟩
  | k + 1 => by
    obtain ⟨h1, h2, h3⟩ := upN_part hn hx k
    obtain ⟨h4, h5, h6⟩ := up_part h2 (show upN n k ≤ 9223372036854775807 by omega) (show (2 : Int) ≤ 16 by omega) (by omega)
    exact ⟨by rw [partN, h1, h4]; rfl, h5, by rw [upN]; omega⟩
theorem cost_eq (k : Int) (len : Nat) {n : Int} (hx : n ≤ 9223372036854775807) : costF k len n = rcostF k len n := by
  have h0 : 0 ≤ max0 n := by unfold max0; split <;> omega
  have h1 : max0 n ≤ 9223372036854775807 := by unfold max0; split <;> omega
  unfold costF rcostF
  rw [(up_part h0 h1 (show (2 : Int) ≤ 2 by omega) (by omega)).1, (up_part h0 h1 (show (2 : Int) ≤ 4 by omega) (by omega)).1, (upN_part h0 h1 len).1]

end Go.Proofs.YtijjagkeaehhbaaGreat.Eng

/- What value.Valid and predicate.condition compute. Each function's arguments are its condition. -/
set_option linter.unusedSimpArgs false
set_option linter.unusedVariables false
namespace Go.Proofs.YtijjagkeaehhbaaGreat.Eng
open Go.RowKit (Below)

def byteOk (t : ByteArray) (i : Nat) : Bool := match t[i]? with | some c => !(decide ((c.toNat : Int) < 32) || decide ((c.toNat : Int) > 126)) | none => true
def printB (t : ByteArray) : Bool := (List.range t.size).all (byteOk t)
theorem printB_no {t : ByteArray} {j : Nat} (hj : j < t.size) (h : byteOk t j = false) : printB t = false := by
  rw [printB, Bool.eq_false_iff]
  intro ha
  have := List.all_eq_true.1 ha j (List.mem_range.2 hj)
  rw [h] at this
  cases this
theorem c_printable (t : ByteArray) (ht : t.size ≤ 200) : AFunR Tryz.prog 180 [.pv (.str t)] (fun r => r = .b (printB t)) := by
  refine afun_body T_ok mixed Tryz.func180 rfl (ent_of Tryz.func180 rfl rfl) (Nat.le_of_ble_eq_true rfl) ?_
  repeat' (first | exact True.intro | apply And.intro | (intro h; exact Bool.noConfusion h) | exact ok_op (by kernel_rfl) | exact ok_tr (by kernel_rfl) | intro _ | refine @Exists.intro Bool _ true ?_ | refine @Exists.intro Way _ .call ?_)
  refine ⟨fun m s => ∃ j : Nat, j ≤ t.size ∧ (∀ i, i < j → byteOk t i = true) ∧ m = t.size - j ∧ s = AS.on [(0, .pv (.str t)), (5, .i t.size), (6, .i j)] [] 0 20 0 (fun _ => false), ⟨t.size, _, ⟨0, Nat.zero_le _, fun i hi => absurd hi (Nat.not_lt_zero _), rfl, rfl⟩, ?_⟩, ?_⟩
  · refine weak_on rfl rfl rfl rfl ?_ ?_
    repeat' (first | exact True.intro | apply And.intro | (intro h; exact Bool.noConfusion h) | exact ok_op (by kernel_rfl) | exact ok_tr (by kernel_rfl) | intro _ | rfl | refine @Exists.intro Bool _ true ?_ | refine @Exists.intro Way _ .call ?_)
  · rintro m s ⟨j, hj, hall, rfl, rfl⟩
    by_cases hlt : j < t.size
    · obtain ⟨c, hc⟩ : ∃ c, t[j]? = some c := by
        cases h : t[j]? with
        | some c => exact ⟨c, rfl⟩
        | none => rw [getElem?_pos t j hlt] at h; cases h
      have hc' : t[((j : Nat) : Int).toNat]? = some c := hc
      have hb : byteOk t j = !(decide ((c.toNat : Int) < 32) || decide ((c.toNat : Int) > 126)) := by unfold byteOk; rw [hc]
      repeat' (first | exact True.intro | apply And.intro | (intro h; exact Bool.noConfusion h) | exact ok_op (by kernel_rfl) | exact ok_tr (by kernel_rfl) | intro _ | refine ⟨c, Int.natCast_nonneg j, hc', ?_⟩ | apply fin_b | refine @Exists.intro Bool _ true ?_ | refine @Exists.intro Way _ .call ?_)
      all_goals first
        | (exfalso; have := of_decide_eq_false ‹decide ((j : Int) < t.size) = false›; omega)
        | (refine ⟨t.size - (j + 1), _, by omega, ⟨j + 1, hlt, fun i hi => ?_, rfl, rfl⟩, weak_on rfl rfl rfl rfl ?_ ?_⟩
           · rcases Nat.lt_succ_iff_lt_or_eq.1 hi with h | h
             · exact hall i h
             · subst h; rw [hb]; simp_all
           · repeat' (first | exact True.intro | apply And.intro | (intro h; exact Bool.noConfusion h) | exact ok_op (by kernel_rfl) | exact ok_tr (by kernel_rfl) | intro _ | rfl | (apply fin_i; rw [wrap_id] <;> omega) | refine @Exists.intro Bool _ true ?_ | refine @Exists.intro Way _ .call ?_)
           · repeat' (first | exact True.intro | apply And.intro | (intro h; exact Bool.noConfusion h) | exact ok_op (by kernel_rfl) | exact ok_tr (by kernel_rfl) | intro _ | rfl | refine @Exists.intro Bool _ true ?_ | refine @Exists.intro Way _ .call ?_))
        | (symm; apply printB_no hlt; rw [hb]; simp_all)
    · have hj' : j = t.size := by omega
      subst hj'
      repeat' (first | exact True.intro | apply And.intro | (intro h; exact Bool.noConfusion h) | exact ok_op (by kernel_rfl) | exact ok_tr (by kernel_rfl) | intro _ | apply fin_b | refine @Exists.intro Bool _ true ?_ | refine @Exists.intro Way _ .call ?_)
      all_goals first
        | (exfalso; have := of_decide_eq_true ‹decide ((t.size : Int) < t.size) = true›; omega)
        | (symm; unfold printB; rw [List.all_eq_true]; intro i hi; exact hall i (List.mem_range.1 hi))

def emptyB (t : ByteArray) : Bool := t.toList == (⟨#[]⟩ : ByteArray).toList
def validV (k i : Int) (t : ByteArray) : Bool :=
  if k = 0 then (i == 0) && emptyB t else if k = 1 then emptyB t && decide (i ≥ -1125899906842624) && decide (i ≤ 1125899906842624) else if k = 2 then (i == 0) && decide ((t.size : Int) ≤ 200) && printB t
  else if k = 3 then emptyB t && ((i == 0) || (i == 1)) else false
abbrev valA (k i : Int) (t : ByteArray) : AV := .agg [li k, li i, .pv (.str t)]
theorem c_vvalid (k i : Int) (t : ByteArray) : AFunR Tryz.prog 150 [valA k i t] (fun r => r = .b (validV k i t)) := by
  refine afun_body T_ok mixed Tryz.func150 rfl (ent_of Tryz.func150 rfl rfl) (Nat.le_of_ble_eq_true rfl) ?_
  repeat' (first | exact True.intro | apply And.intro | (intro h; exact Bool.noConfusion h) | exact ok_op (by kernel_rfl) | exact ok_tr (by kernel_rfl) | intro _ | refine callR_of_fun (c_printable t (by have := of_decide_eq_true ‹decide ((t.size : Int) ≤ 200) = true›; omega)).afun rfl ?_ | apply fin_b | refine @Exists.intro Bool _ true ?_ | refine @Exists.intro Way _ .call ?_)
  all_goals (unfold validV emptyB; grind)

def noneA : AV := .tup [.agg [li 0, li 0, li 0, li 0, .pv (.str ⟨#[]⟩)], .lf (.pv (.bool false))]
def someA (op n k i : Int) (t : ByteArray) : AV := .tup [.agg [li op, li n, li k, li i, .pv (.str t)], .lf (.pv (.bool true))]
def inSet (op : Int) : Bool := op == 7 || op == 9 || op == 10 || op == 11 || op == 12
def coreV (op ao an bo bk bi : Int) (bt : ByteArray) : AV := if ao = 2 ∧ bo = 1 ∧ bk ≠ 0 ∧ validV bk bi bt = true then someA op an bk bi bt else noneA
def condV (op o1 n1 k1 i1 : Int) (t1 : ByteArray) (o2 n2 k2 i2 : Int) (t2 : ByteArray) : AV :=
  if inSet op = true then (if o1 = 1 then coreV (mirF op) o2 n2 o1 k1 i1 t1 else coreV op o1 n1 o2 k2 i2 t2) else noneA
theorem c_cond_no (op n vk vi : Int) (vt s : ByteArray) (rows : List (List PV)) (h : inSet op = false ∨ rows.length ≠ 2) :
    AFunR Tryz.prog 113 [.agg [li op, li n, li vk, li vi, .pv (.str vt), .pv (.str s), .pv (.vs 7 rows)]] (fun r => r = noneA) := by
  refine afun_body T_ok mixed Tryz.func113 rfl (ent_of Tryz.func113 rfl rfl) (Nat.le_of_ble_eq_true rfl) ?_
  repeat' (first | exact True.intro | apply And.intro | (intro h; exact Bool.noConfusion h) | exact ok_op (by kernel_rfl) | exact ok_tr (by kernel_rfl) | intro _ | refine fin_to (y := .tup [.agg [_, _, _, _, _], .lf (.pv (.bool _))]) rfl ?_ | refine @Exists.intro Bool _ true ?_ | refine @Exists.intro Way _ .call ?_)
  all_goals first
    | exact ⟨rfl⟩
    | (exfalso; rcases h with h | h
       · simp_all [inSet]
       · simp_all; omega)
abbrev exA (op n vk vi : Int) (vt s : ByteArray) (q : PV) : List PV := [I op, I n, I vk, I vi, .str vt, .str s, q]
theorem weak_is {s s1 : AS} (h : Weak s s1) {Q : AS → Prop} (hq : Q s1) : ∃ s1, Q s1 ∧ Weak s s1 := ⟨s1, hq, h⟩
abbrev exL (op n vk vi : Int) (vt s : ByteArray) (q : PV) : List LV := [li op, li n, li vk, li vi, .pv (.str vt), .pv (.str s), .pv q]
abbrev zC : List LV := [li 0, li 0, li 0, li 0, .pv (.str ⟨#[]⟩)]
theorem c_cond_yes (op n vk vi : Int) (vt s : ByteArray) (o1 n1 k1 i1 : Int) (t1 s1 : ByteArray) (q1 : PV) (o2 n2 k2 i2 : Int) (t2 s2 : ByteArray) (q2 : PV) (h : inSet op = true) :
    AFunR Tryz.prog 113 [.agg [li op, li n, li vk, li vi, .pv (.str vt), .pv (.str s), .pv (.vs 7 [exA o1 n1 k1 i1 t1 s1 q1, exA o2 n2 k2 i2 t2 s2 q2])]] (fun r => r = condV op o1 n1 k1 i1 t1 o2 n2 k2 i2 t2) := by
  refine afun_sem T_ok Tryz.func113 rfl (ent_of Tryz.func113 rfl rfl) (Nat.le_of_ble_eq_true rfl) ?_
  refine sem_join T_ok mixed (fun s1' => s1' = AS.on [(1, .lv (.ptr 0 0)), (2, .lv (.ptr 1 0)), (3, .b false)] [(0, .box 31 (exL op n vk vi vt s (.vs 7 [exA o1 n1 k1 i1 t1 s1 q1, exA o2 n2 k2 i2 t2 s2 q2]))), (1, .box 130 zC)] 2 65 0 (fun _ => false)) ?_ ?_
  · repeat' (first | exact True.intro | apply And.intro | (intro h; exact Bool.noConfusion h) | exact ok_op (by kernel_rfl) | exact ok_tr (by kernel_rfl) | intro _ | refine weak_is (weak_on rfl rfl rfl rfl ?_ ?_) rfl | rfl | refine Exists.intro _ (And.intro rfl ?_) | refine @Exists.intro Bool _ true ?_ | refine @Exists.intro Way _ .call ?_)
    all_goals (exfalso; simp_all [inSet])
  rintro _ rfl
  refine sem_join T_ok mixed (fun s1' => s1' = AS.on [(2, .lv (.ptr 1 0)), (3, .b false), (4, .lv (.ptr 12 0)), (5, .lv (.ptr 13 0)), (6, .i op)] [(1, .box 130 zC), (12, .box 31 (exL o1 n1 k1 i1 t1 s1 q1)), (13, .box 31 (exL o2 n2 k2 i2 t2 s2 q2))] 14 65 0 (fun _ => false)) ?_ ?_
  · repeat' (first | exact True.intro | apply And.intro | (intro h; exact Bool.noConfusion h) | exact ok_op (by kernel_rfl) | exact ok_tr (by kernel_rfl) | intro _ | refine weak_is (weak_on rfl rfl rfl rfl ?_ ?_) rfl | rfl | refine Exists.intro _ (And.intro (by decide) (And.intro rfl (And.intro rfl ?_))) | refine Exists.intro _ (And.intro rfl ?_) | refine @Exists.intro Bool _ true ?_ | refine @Exists.intro Way _ .call ?_)
    all_goals (exfalso; simp_all)
  rintro _ rfl
  refine sem_seq (fun s1' => ∃ o a1 a2 a3 a4 ta sa qa b1 b2 b3 b4 tb sb qb, condV op o1 n1 k1 i1 t1 o2 n2 k2 i2 t2 = coreV o a1 a2 b1 b3 b4 tb ∧ s1' = AS.on [(2, .lv (.ptr 1 0)), (3, .b false), (4, .lv (.ptr 12 0)), (5, .lv (.ptr 13 0)), (6, .i o)] [(1, .box 130 zC), (12, .box 31 (exL a1 a2 a3 a4 ta sa qa)), (13, .box 31 (exL b1 b2 b3 b4 tb sb qb))] 14 65 0 (fun _ => false)) (sem_vc T_ok mixed ?_) ?_
  · by_cases h1 : o1 = 1
    · repeat' (first | exact True.intro | apply And.intro | (intro h; exact Bool.noConfusion h) | exact ok_op (by kernel_rfl) | exact ok_tr (by kernel_rfl) | intro _ | refine Exists.intro _ (And.intro (c_mirrored _).afun (And.intro rfl ?_)) | refine weak_is (weak_on rfl rfl rfl rfl ?_ ?_) ⟨mirF op, o2, n2, k2, i2, t2, s2, q2, o1, n1, k1, i1, t1, s1, q1, by simp [condV, h, h1], rfl⟩ | rfl | refine Exists.intro _ (And.intro rfl ?_) | refine @Exists.intro Bool _ true ?_ | refine @Exists.intro Way _ .call ?_)
      all_goals (exfalso; simp_all; done)
    · repeat' (first | exact True.intro | apply And.intro | (intro h; exact Bool.noConfusion h) | exact ok_op (by kernel_rfl) | exact ok_tr (by kernel_rfl) | intro _ | refine Exists.intro _ (And.intro (c_mirrored _).afun (And.intro rfl ?_)) | refine weak_is (weak_on rfl rfl rfl rfl ?_ ?_) ⟨op, o1, n1, k1, i1, t1, s1, q1, o2, n2, k2, i2, t2, s2, q2, by simp [condV, h, h1], rfl⟩ | rfl | refine Exists.intro _ (And.intro rfl ?_) | refine @Exists.intro Bool _ true ?_ | refine @Exists.intro Way _ .call ?_)
      all_goals (exfalso; simp_all; done)
  rintro _ ⟨o, a1, a2, a3, a4, ta, sa, qa, b1, b2, b3, b4, tb, sb, qb, hq, rfl⟩
  rw [hq]
  refine sem_vc T_ok mixed ?_
  repeat' (first | exact True.intro | apply And.intro | (intro h; exact Bool.noConfusion h) | exact ok_op (by kernel_rfl) | exact ok_tr (by kernel_rfl) | intro _ | refine callR_of_fun (c_vvalid _ _ _).afun rfl ?_ | refine fin_to (y := .tup [.agg [_, _, _, _, _], .lf (.pv (.bool _))]) rfl ?_ | refine @Exists.intro Bool _ true ?_ | refine @Exists.intro Way _ .call ?_)
  all_goals (refine ⟨?_⟩; unfold coreV noneA someA; grind)

end Go.Proofs.YtijjagkeaehhbaaGreat.Eng

/- What predicate.Conditions and its helpers compute. Each function's arguments are its condition. -/
set_option linter.unusedSimpArgs false
set_option linter.unusedVariables false
namespace Go.Proofs.YtijjagkeaehhbaaGreat.Eng
open Go.RowKit (Below)

/-- An expression. -/
inductive Ex where
  | mk (op n vk vi : Int) (vt s : ByteArray) (args : List Ex)
mutual
def Ex.row : Ex → List PV
  | .mk op n vk vi vt s args => [I op, I n, I vk, I vi, .str vt, .str s, .vs 7 (exRows args)]
def exRows : List Ex → List (List PV)
  | [] => []
  | e :: r => e.row :: exRows r
end
theorem exRows_length : ∀ l : List Ex, (exRows l).length = l.length
  | [] => rfl
  | e :: r => by rw [exRows, List.length_cons, exRows_length r, List.length_cons]
theorem exRows_get : ∀ (l : List Ex) (i : Nat) (e : Ex), l[i]? = some e → (exRows l)[i]? = some e.row
  | [], i, e, h => by simp at h
  | x :: r, 0, e, h => by simp only [List.getElem?_cons_zero, Option.some.injEq] at h; subst h; simp [exRows]
  | x :: r, i + 1, e, h => by rw [exRows, List.getElem?_cons_succ]; exact exRows_get r i e (by simpa using h)

def condE : Ex → AV
  | .mk op n vk vi vt s [.mk o1 n1 k1 i1 t1 s1 q1, .mk o2 n2 k2 i2 t2 s2 q2] => condV op o1 n1 k1 i1 t1 o2 n2 k2 i2 t2
  | _ => noneA
theorem condE_no {op n vk vi : Int} {vt s : ByteArray} {args : List Ex} (h : inSet op = false ∨ args.length ≠ 2) : condE (.mk op n vk vi vt s args) = noneA := by
  unfold condE
  split
  · rcases h with h | h
    · rename_i he
      injection he with he1 he2 he3 he4 he5 he6 he7
      subst he1
      simp [condV, h]
    · rename_i he
      injection he with he1 he2 he3 he4 he5 he6 he7
      subst he7
      simp at h
  · rfl
theorem c_cond (e : Ex) : AFunR Tryz.prog 113 [.agg (pvs e.row)] (fun r => r = condE e) := by
  obtain ⟨op, n, vk, vi, vt, s, args⟩ := e
  by_cases h : inSet op = false ∨ args.length ≠ 2
  · rw [condE_no h]
    exact c_cond_no op n vk vi vt s (exRows args) (by rw [exRows_length]; exact h)
  · have h1 : inSet op = true := by cases hb : inSet op; exact absurd (.inl hb) h; rfl
    have h2 : args.length = 2 := by rcases Nat.decEq args.length 2 with h3 | h3; exact absurd (.inr h3) h; exact h3
    match args, h2 with
    | [.mk o1 n1 k1 i1 t1 s1 q1, .mk o2 n2 k2 i2 t2 s2 q2], _ => exact c_cond_yes op n vk vi vt s o1 n1 k1 i1 t1 s1 (.vs 7 (exRows q1)) o2 n2 k2 i2 t2 s2 (.vs 7 (exRows q2)) h1

/-- The row of a condition, if there is one. -/
theorem condE_cases (e : Ex) : condE e = noneA ∨ ∃ op n k i t, condE e = someA op n k i t := by
  have core : ∀ op ao an bo bk bi bt, coreV op ao an bo bk bi bt = noneA ∨ ∃ op' n k i t, coreV op ao an bo bk bi bt = someA op' n k i t := by
    intro op ao an bo bk bi bt
    unfold coreV
    split
    · exact .inr ⟨_, _, _, _, _, rfl⟩
    · exact .inl rfl
  unfold condE
  split
  · unfold condV
    split
    · split <;> exact core ..
    · exact .inl rfl
  · exact .inl rfl
def rowOfA : AV → List (List PV)
  | .tup [.agg [.pv a, .pv b, .pv c, .pv d, .pv e], .lf (.pv (.bool true))] => [[a, b, c, d, e]]
  | _ => []
def condsE (e : Ex) : List (List PV) := rowOfA (condE e)
theorem condsE_le (e : Ex) : (condsE e).length ≤ 1 := by
  unfold condsE
  rcases condE_cases e with h | ⟨op, n, k, i, t, h⟩ <;> rw [h] <;> simp [rowOfA, noneA, someA]

def chOne : Nat → Bool := fun i => Nat.beq i 1
abbrev objsC (cs : List (List PV)) : List AObj := [.box 126 [.sl 1], .row 130 5 cs]
theorem fin_objsC {x y : List (List PV)} (h : Fin (x = y)) : objsC x = objsC y := by rw [h.out]
theorem c_add (e : Ex) (cs : List (List PV)) (hb : cs.length ≤ 1099511627776) : CallF Tryz.prog 112 [.agg (pvs e.row), .lv (.ptr 0 0)] (objsC cs) chOne (fun r objs => objs = objsC (cs ++ condsE e)) := by
  have hc := c_cond e
  unfold condsE
  obtain ⟨op, n, vk, vi, vt, s, args⟩ := e
  refine callF_body T_ok mixed Tryz.func112 rfl (ent_of Tryz.func112 rfl rfl) (Nat.le_of_ble_eq_true rfl) ?_
  rcases condE_cases (.mk op n vk vi vt s args) with h | ⟨op', n', k, i, t, h⟩
  · rw [h] at hc ⊢
    repeat' (first | exact True.intro | apply And.intro | (intro h; exact Bool.noConfusion h) | exact ok_op (by kernel_rfl) | exact ok_tr (by kernel_rfl) | intro _ | refine callR_of_fun hc.afun rfl ?_ | refine fin_objsC ?_ | rfl | refine @Exists.intro Bool _ true ?_ | refine @Exists.intro Way _ .call ?_)
    all_goals (refine ⟨?_⟩; simp [rowOfA, noneA])
  · rw [h] at hc ⊢
    repeat' (first | exact True.intro | apply And.intro | (intro h; exact Bool.noConfusion h) | exact ok_op (by kernel_rfl) | exact ok_tr (by kernel_rfl) | intro _ | refine callR_of_fun hc.afun rfl ?_ | refine fin_objsC ?_ | rfl | (simp only [chunk, List.length_cons, List.length_nil, ti130]; omega) | refine @Exists.intro Bool _ true ?_ | refine @Exists.intro Way _ .call ?_)
    all_goals exact ⟨rfl⟩

def andB (op n vk vi : Int) (vt s : ByteArray) (len : Nat) : Bool := op == 5 && decide (2 ≤ len) && n == 0 && emptyB s && (vk == 0 && vi == 0 && emptyB vt)
mutual
def leaves : Ex → List (List PV)
  | .mk op n vk vi vt s args => bif andB op n vk vi vt s args.length then leavesL args else condsE (.mk op n vk vi vt s args)
def leavesL : List Ex → List (List PV)
  | [] => []
  | e :: r => leaves e ++ leavesL r
end
theorem leavesL_take : ∀ (l : List Ex) (j : Nat) (e : Ex), l[j]? = some e → leavesL (l.take (j + 1)) = leavesL (l.take j) ++ leaves e
  | [], j, e, h => by simp at h
  | x :: r, 0, e, h => by simp only [List.getElem?_cons_zero, Option.some.injEq] at h; subst h; simp [leavesL]
  | x :: r, j + 1, e, h => by
    rw [List.take_succ_cons, leavesL, leavesL_take r j e (by simpa using h), List.take_succ_cons, leavesL, List.append_assoc]

mutual
def Ex.fits : Ex → Prop
  | .mk _ _ _ _ _ _ args => args.length ≤ 9223372036854775807 ∧ fitsL args
def fitsL : List Ex → Prop
  | [] => True
  | e :: r => e.fits ∧ fitsL r
end
theorem fitsL_get : ∀ (l : List Ex) (j : Nat) (e : Ex), fitsL l → l[j]? = some e → e.fits
  | [], j, e, _, h => by simp at h
  | x :: r, 0, e, hf, h => by simp only [List.getElem?_cons_zero, Option.some.injEq] at h; subst h; exact hf.1
  | x :: r, j + 1, e, hf, h => fitsL_get r j e hf.2 (by simpa using h)
theorem leavesL_le : ∀ (l : List Ex) (j : Nat), (leavesL (l.take j)).length ≤ (leavesL l).length
  | [], j => by simp [leavesL]
  | x :: r, 0 => by simp [leavesL]
  | x :: r, j + 1 => by rw [List.take_succ_cons, leavesL, leavesL, List.length_append, List.length_append]; have := leavesL_le r j; omega
theorem c_each_n : ∀ (N : Nat) (e : Ex), e.fits → SizeOf.sizeOf e < N → ∀ (cs : List (List PV)), cs.length + (leaves e).length ≤ 1099511627776 →
    CallF Tryz.prog 111 [.agg (pvs e.row), .lv (.clo 112 [0])] (objsC cs) chOne (fun r objs => objs = objsC (cs ++ leaves e))
  | 0, e, _, hN, cs, hb => absurd hN (Nat.not_lt_zero _)
  | N + 1, .mk op n vk vi vt s args, hfit, hN, cs, hb => by
    have hwide := hfit.1
    have hadd := c_add (.mk op n vk vi vt s args) cs (by omega)
    refine callF_body T_ok mixed Tryz.func111 rfl (ent_of Tryz.func111 rfl rfl) (Nat.le_of_ble_eq_true rfl) ?_
    have hlen := exRows_length args
    cases ha : andB op n vk vi vt s args.length with
    | false =>
      have hl : leaves (.mk op n vk vi vt s args) = condsE (.mk op n vk vi vt s args) := by rw [leaves, ha]; rfl
      rw [hl]
      repeat' (first | exact True.intro | apply And.intro | (intro h; exact Bool.noConfusion h) | exact ok_op (by kernel_rfl) | exact ok_tr (by kernel_rfl) | intro _ | refine Exists.intro _ (And.intro (ne_val _ _ _ _ _ _ _ _) ?_) | refine callR_of_frame_eq hadd [0, 1] rfl rfl ?_ rfl ?_ | refine fin_objsC ?_ | rfl | refine @Exists.intro Bool _ true ?_ | refine @Exists.intro Way _ .call ?_)
      all_goals first
        | exact ⟨rfl⟩
        | (exfalso
           simp only [andB, emptyB] at ha
           simp_all
           omega)
    | true =>
      have hl : leaves (.mk op n vk vi vt s args) = leavesL args := by rw [leaves, ha]; rfl
      rw [hl] at hb ⊢
      repeat' (first | exact True.intro | apply And.intro | (intro h; exact Bool.noConfusion h) | exact ok_op (by kernel_rfl) | exact ok_tr (by kernel_rfl) | intro _ | refine Exists.intro _ (And.intro (ne_val _ _ _ _ _ _ _ _) ?_) | refine callR_of_frame_eq hadd [0, 1] rfl rfl ?_ rfl ?_ | refine fin_objsC ?_ | rfl | refine @Exists.intro Bool _ true ?_ | refine @Exists.intro Way _ .call ?_)
      all_goals first
        | (exfalso
           simp only [andB, emptyB] at ha
           clear hadd hl hb hN
           grind)
        | skip
      refine ⟨fun m st => ∃ j : Nat, j ≤ args.length ∧ m = args.length - j ∧ st = AS.on [(1, .lv (.clo 112 [0])), (35, .pv (.vs 7 (exRows args))), (36, .i (exRows args).length), (37, .i j)] [(0, .box 126 [.sl 1]), (1, .row 130 5 (cs ++ leavesL (args.take j)))] 2 45 2 chOne, ⟨args.length, _, ⟨0, Nat.zero_le _, rfl, rfl⟩, ?_⟩, ?_⟩
      · refine weak_on rfl rfl rfl rfl ?_ ?_
        · repeat' (first | exact True.intro | apply And.intro | (intro h; exact Bool.noConfusion h) | exact ok_op (by kernel_rfl) | exact ok_tr (by kernel_rfl) | intro _ | rfl | refine @Exists.intro Bool _ true ?_ | refine @Exists.intro Way _ .call ?_)
        · repeat' (first | exact True.intro | apply And.intro | (intro h; exact Bool.noConfusion h) | exact ok_op (by kernel_rfl) | exact ok_tr (by kernel_rfl) | intro _ | rfl | refine Exists.intro _ (And.intro rfl ?_) | (rw [List.take_zero, leavesL, List.append_nil]; rfl) | refine @Exists.intro Bool _ true ?_ | refine @Exists.intro Way _ .call ?_)
      · rintro m st ⟨j, hj, rfl, rfl⟩
        by_cases hlt : j < args.length
        · obtain ⟨x, hx⟩ : ∃ x, args[j]? = some x := ⟨_, List.getElem?_eq_getElem hlt⟩
          have hrow := exRows_get args j x hx
          have hrow' : (exRows args)[((j : Nat) : Int).toNat]? = some x.row := hrow
          have htk := leavesL_take args j x hx
          have hle := leavesL_le args (j + 1)
          have hsz : SizeOf.sizeOf x < N := by
            have h1 := List.sizeOf_lt_of_mem (List.mem_of_getElem? hx)
            simp only [Ex.mk.sizeOf_spec] at hN
            omega
          rw [htk, List.length_append] at hle
          have ih := c_each_n N x (fitsL_get args j x hfit.2 hx) hsz (cs ++ leavesL (args.take j)) (by rw [List.length_append]; omega)
          rw [List.append_assoc, ← htk] at ih
          obtain ⟨xo, xn, xk, xi, xt, xs, xa⟩ := x
          repeat' (first | exact True.intro | apply And.intro | (intro h; exact Bool.noConfusion h) | exact ok_op (by kernel_rfl) | exact ok_tr (by kernel_rfl) | intro _ | refine Exists.intro _ (And.intro (Int.natCast_nonneg j) (And.intro hrow' (And.intro rfl ?_))) | refine callR_of_frame_eq ih [0, 1] rfl rfl ?_ rfl ?_ | rfl | refine @Exists.intro Bool _ true ?_ | refine @Exists.intro Way _ .call ?_)
          all_goals first
            | (exfalso; have := of_decide_eq_false ‹decide ((j : Int) < (exRows args).length) = false›; omega)
            | skip
          refine ⟨args.length - (j + 1), _, by omega, ⟨j + 1, hlt, rfl, rfl⟩, weak_on rfl rfl rfl rfl ?_ ?_⟩
          · repeat' (first | exact True.intro | apply And.intro | (intro h; exact Bool.noConfusion h) | exact ok_op (by kernel_rfl) | exact ok_tr (by kernel_rfl) | intro _ | rfl | (apply fin_i; rw [wrap_id] <;> omega) | refine @Exists.intro Bool _ true ?_ | refine @Exists.intro Way _ .call ?_)
          · repeat' (first | exact True.intro | apply And.intro | (intro h; exact Bool.noConfusion h) | exact ok_op (by kernel_rfl) | exact ok_tr (by kernel_rfl) | intro _ | rfl | refine Exists.intro _ (And.intro rfl ?_) | refine @Exists.intro Bool _ true ?_ | refine @Exists.intro Way _ .call ?_)
        · have hje : j = args.length := by omega
          repeat' (first | exact True.intro | apply And.intro | (intro h; exact Bool.noConfusion h) | exact ok_op (by kernel_rfl) | exact ok_tr (by kernel_rfl) | intro _ | refine fin_objsC ?_ | rfl | refine @Exists.intro Bool _ true ?_ | refine @Exists.intro Way _ .call ?_)
          all_goals first
            | (exfalso; have := of_decide_eq_true ‹decide ((j : Int) < (exRows args).length) = true›; omega)
            | (refine ⟨?_⟩; rw [hje, List.take_length])

end Go.Proofs.YtijjagkeaehhbaaGreat.Eng

/- What predicate.Conditions and the test of the key columns compute. Each function's arguments are its condition. -/
set_option linter.unusedSimpArgs false
set_option linter.unusedVariables false
namespace Go.Proofs.YtijjagkeaehhbaaGreat.Eng
open Go.RowKit (Below)

theorem c_conditions (e : Ex) (hf : e.fits) (hb : (leaves e).length ≤ 1099511627776) : AFunR Tryz.prog 69 [.agg (pvs e.row)] (fun r => r = .pv (.vs 5 (leaves e))) := by
  have hea := c_each_n (SizeOf.sizeOf e + 1) e hf (Nat.lt_succ_self _) [] (by simpa using hb)
  rw [List.nil_append] at hea
  obtain ⟨op, n, vk, vi, vt, s, args⟩ := e
  refine afun_sem T_ok Tryz.func69 rfl (ent_of Tryz.func69 rfl rfl) (Nat.le_of_ble_eq_true rfl) ?_
  refine sem_join T_ok mixed (fun s1 => s1 = AS.on [(1, .lv (.ptr 0 0)), (3, .lv (.ptr 1 0))] [(0, .box 31 (pvs (Ex.mk op n vk vi vt s args).row)), (1, .box 126 [.sl 2]), (2, .row 130 5 [])] 3 8 0 (fun _ => false)) ?_ ?_
  · repeat' (first | exact True.intro | apply And.intro | (intro h; exact Bool.noConfusion h) | exact ok_op (by kernel_rfl) | exact ok_tr (by kernel_rfl) | intro _ | refine weak_is ((weak_adoptC (id := 1) (k := 0) (t := 130) (sz := 5) rfl rfl).trans (weak_on rfl rfl rfl rfl ?_ ?_)) rfl | rfl | refine Exists.intro _ (And.intro rfl ?_) | refine @Exists.intro Bool _ true ?_ | refine @Exists.intro Way _ .call ?_)
  rintro _ rfl
  refine sem_vc T_ok mixed ?_
  repeat' (first | exact True.intro | apply And.intro | (intro h; exact Bool.noConfusion h) | exact ok_op (by kernel_rfl) | exact ok_tr (by kernel_rfl) | intro _ | refine callR_of_frame_eq hea [1, 2] rfl rfl ?_ rfl ?_ | apply fin_vs | rfl | refine @Exists.intro Bool _ true ?_ | refine @Exists.intro Way _ .call ?_)

theorem fin_bo {x y : Bool} {o : List AObj} (h : Fin (x = y)) : AV.b x = AV.b y ∧ o = o := ⟨by rw [h.out], rfl⟩
theorem c_isEq (op cl k i col : Int) (tx : ByteArray) : CallF Tryz.prog 71 [.agg [li op, li cl, li k, li i, .pv (.str tx)], .lv (.ptr 0 0)] [.box 3 [li col]] (fun _ => false) (fun r objs => r = .b (op == 7 && cl == col) ∧ objs = [.box 3 [li col]]) := by
  refine callF_body T_ok mixed Tryz.func71 rfl (ent_of Tryz.func71 rfl rfl) (Nat.le_of_ble_eq_true rfl) ?_
  repeat' (first | exact True.intro | apply And.intro | (intro h; exact Bool.noConfusion h) | exact ok_op (by kernel_rfl) | exact ok_tr (by kernel_rfl) | intro _ | apply fin_b | rfl | refine @Exists.intro Bool _ true ?_ | refine @Exists.intro Way _ .call ?_)
  all_goals grind

/-- A condition. -/
structure Cd where
  op : Int
  cl : Int
  k : Int
  i : Int
  t : ByteArray
def Cd.row (c : Cd) : List PV := [I c.op, I c.cl, I c.k, I c.i, .str c.t]
def cdOfA : AV → List Cd
  | .tup [.agg [.pv (.int .i64 a), .pv (.int .i64 b), .pv (.int .i64 c), .pv (.int .i64 d), .pv (.str e)], .lf (.pv (.bool true))] => [⟨a, b, c, d, e⟩]
  | _ => []
mutual
def leavesC : Ex → List Cd
  | .mk op n vk vi vt s args => bif andB op n vk vi vt s args.length then leavesCL args else cdOfA (condE (.mk op n vk vi vt s args))
def leavesCL : List Ex → List Cd
  | [] => []
  | e :: r => leavesC e ++ leavesCL r
end
theorem condsE_cd (e : Ex) : condsE e = (cdOfA (condE e)).map Cd.row := by
  unfold condsE
  rcases condE_cases e with h | ⟨op, n, k, i, t, h⟩ <;> rw [h] <;> rfl
mutual
theorem leaves_cd : ∀ e : Ex, leaves e = (leavesC e).map Cd.row
  | .mk op n vk vi vt s args => by
    rw [leaves, leavesC]
    cases andB op n vk vi vt s args.length with
    | true => exact leavesL_cd args
    | false => exact condsE_cd _
theorem leavesL_cd : ∀ l : List Ex, leavesL l = (leavesCL l).map Cd.row
  | [] => rfl
  | e :: r => by rw [leavesL, leavesCL, List.map_append, leaves_cd e, leavesL_cd r]
end

def isEq (col : Int) (c : Cd) : Bool := c.op == 7 && c.cl == col
def idxN (cds : List Cd) (col : Int) : Int := match cds.findIdx? (isEq col) with | some i => (i : Int) | none => -1
theorem cdRow_get {cds : List Cd} {j : Nat} {c : Cd} (h : cds[j]? = some c) : (cds.map Cd.row)[((j : Nat) : Int).toNat]? = some c.row := by
  have : ((j : Nat) : Int).toNat = j := rfl
  rw [this, List.getElem?_map, h]; rfl

end Go.Proofs.YtijjagkeaehhbaaGreat.Eng

/- What slices.IndexFunc (on conditions) and the key columns that a condition determines compute. Each function's arguments are its condition. -/
set_option linter.unusedSimpArgs false
set_option linter.unusedVariables false
namespace Go.Proofs.YtijjagkeaehhbaaGreat.Eng
open Go.RowKit (Below)

theorem idx_no {cds : List Cd} {col : Int} (h : ∀ (i : Nat) c, cds[i]? = some c → isEq col c = false) : idxN cds col = -1 := by
  unfold idxN
  rw [List.findIdx?_eq_none_iff.2 fun c hc => by obtain ⟨i, hi⟩ := List.getElem?_of_mem hc; exact h i c hi]
theorem idx_yes {cds : List Cd} {col : Int} {j : Nat} {c : Cd} (hj : cds[j]? = some c) (hc : isEq col c = true) (h : ∀ (i : Nat) c, i < j → cds[i]? = some c → isEq col c = false) : idxN cds col = j := by
  unfold idxN
  obtain ⟨hlt, he⟩ := List.getElem?_eq_some_iff.1 hj
  rw [List.findIdx?_eq_some_iff_getElem.2 ⟨hlt, by rw [he]; exact hc, fun i hi => by
    rw [h i _ hi (List.getElem?_eq_getElem (Nat.lt_trans hi hlt))]; simp⟩]
theorem idx_cases (cds : List Cd) (col : Int) : (idxN cds col = -1 ∧ cds.find? (isEq col) = none) ∨ ∃ (i : Nat) (c : Cd), idxN cds col = i ∧ cds[i]? = some c ∧ cds.find? (isEq col) = some c := by
  cases h : cds.findIdx? (isEq col) with
  | none =>
    refine .inl ⟨by unfold idxN; rw [h], ?_⟩
    rw [List.find?_eq_none]
    intro c hc
    rw [List.findIdx?_eq_none_iff.1 h c hc]
    simp
  | some i =>
    obtain ⟨hlt, h1, h2⟩ := List.findIdx?_eq_some_iff_getElem.1 h
    refine .inr ⟨i, cds[i], by unfold idxN; rw [h], List.getElem?_eq_getElem hlt, ?_⟩
    rw [List.find?_eq_some_iff_getElem]
    exact ⟨h1, i, hlt, rfl, fun j hj => by have := h2 j hj; simpa using this⟩

theorem c_indexF (cds : List Cd) (col : Int) (hl : cds.length ≤ 9223372036854775807) : CallF Tryz.prog 70 [.pv (.vs 5 (cds.map Cd.row)), .lv (.clo 71 [0])] [.box 3 [li col]] (fun _ => false) (fun r objs => r = .i (idxN cds col) ∧ objs = [.box 3 [li col]]) := by
  refine callF_body T_ok mixed Tryz.func70 rfl (ent_of Tryz.func70 rfl rfl) (Nat.le_of_ble_eq_true rfl) ?_
  have hlen : (cds.map Cd.row).length = cds.length := List.length_map ..
  repeat' (first | exact True.intro | apply And.intro | (intro h; exact Bool.noConfusion h) | exact ok_op (by kernel_rfl) | exact ok_tr (by kernel_rfl) | intro _ | refine @Exists.intro Bool _ true ?_ | refine @Exists.intro Way _ .call ?_)
  refine ⟨fun m st => ∃ j : Nat, j ≤ cds.length ∧ (∀ (i : Nat) c, i < j → cds[i]? = some c → isEq col c = false) ∧ m = cds.length - j ∧ st = AS.on [(0, .pv (.vs 5 (cds.map Cd.row))), (1, .lv (.clo 71 [0])), (7, .i (cds.map Cd.row).length), (8, .i j)] [(0, .box 3 [li col])] 1 19 1 (fun _ => false), ⟨cds.length, _, ⟨0, Nat.zero_le _, fun i c hi => absurd hi (Nat.not_lt_zero _), rfl, rfl⟩, ?_⟩, ?_⟩
  · refine weak_on rfl rfl rfl rfl ?_ ?_
    · repeat' (first | exact True.intro | apply And.intro | (intro h; exact Bool.noConfusion h) | exact ok_op (by kernel_rfl) | exact ok_tr (by kernel_rfl) | intro _ | rfl | refine @Exists.intro Bool _ true ?_ | refine @Exists.intro Way _ .call ?_)
    · repeat' (first | exact True.intro | apply And.intro | (intro h; exact Bool.noConfusion h) | exact ok_op (by kernel_rfl) | exact ok_tr (by kernel_rfl) | intro _ | rfl | refine Exists.intro _ (And.intro rfl ?_) | refine @Exists.intro Bool _ true ?_ | refine @Exists.intro Way _ .call ?_)
  · rintro m st ⟨j, hj, hall, rfl, rfl⟩
    by_cases hlt : j < cds.length
    · obtain ⟨c, hc⟩ : ∃ c, cds[j]? = some c := ⟨_, List.getElem?_eq_getElem hlt⟩
      have hrow := cdRow_get hc
      have hq := c_isEq c.op c.cl c.k c.i col c.t
      cases hb : isEq col c with
      | true =>
        rw [show (c.op == 7 && c.cl == col) = true from hb] at hq
        repeat' (first | exact True.intro | apply And.intro | (intro h; exact Bool.noConfusion h) | exact ok_op (by kernel_rfl) | exact ok_tr (by kernel_rfl) | intro _ | refine Exists.intro _ (And.intro (Int.natCast_nonneg j) (And.intro hrow (And.intro rfl ?_))) | refine callR_of_frame_eq2 hq [0] rfl rfl ?_ rfl ?_ | apply fin_i | rfl | refine @Exists.intro Bool _ true ?_ | refine @Exists.intro Way _ .call ?_)
        all_goals first
          | (exfalso; have := of_decide_eq_false ‹decide ((j : Int) < (cds.map Cd.row).length) = false›; omega)
          | exact (idx_yes hc hb hall).symm
      | false =>
        rw [show (c.op == 7 && c.cl == col) = false from hb] at hq
        repeat' (first | exact True.intro | apply And.intro | (intro h; exact Bool.noConfusion h) | exact ok_op (by kernel_rfl) | exact ok_tr (by kernel_rfl) | intro _ | refine Exists.intro _ (And.intro (Int.natCast_nonneg j) (And.intro hrow (And.intro rfl ?_))) | refine callR_of_frame_eq2 hq [0] rfl rfl ?_ rfl ?_ | apply fin_i | rfl | refine @Exists.intro Bool _ true ?_ | refine @Exists.intro Way _ .call ?_)
        all_goals first
          | (exfalso; have := of_decide_eq_false ‹decide ((j : Int) < (cds.map Cd.row).length) = false›; omega)
          | skip
        refine ⟨cds.length - (j + 1), _, by omega, ⟨j + 1, hlt, fun i c' hi hc' => ?_, rfl, rfl⟩, weak_on rfl rfl rfl rfl ?_ ?_⟩
        · rcases Nat.lt_succ_iff_lt_or_eq.1 hi with h | h
          · exact hall i c' h hc'
          · subst h; rw [hc] at hc'; cases hc'; exact hb
        · repeat' (first | exact True.intro | apply And.intro | (intro h; exact Bool.noConfusion h) | exact ok_op (by kernel_rfl) | exact ok_tr (by kernel_rfl) | intro _ | rfl | (apply fin_i; rw [wrap_id] <;> omega) | refine @Exists.intro Bool _ true ?_ | refine @Exists.intro Way _ .call ?_)
        · repeat' (first | exact True.intro | apply And.intro | (intro h; exact Bool.noConfusion h) | exact ok_op (by kernel_rfl) | exact ok_tr (by kernel_rfl) | intro _ | rfl | refine Exists.intro _ (And.intro rfl ?_) | refine @Exists.intro Bool _ true ?_ | refine @Exists.intro Way _ .call ?_)
    · have hje : j = cds.length := by omega
      repeat' (first | exact True.intro | apply And.intro | (intro h; exact Bool.noConfusion h) | exact ok_op (by kernel_rfl) | exact ok_tr (by kernel_rfl) | intro _ | apply fin_i | rfl | refine @Exists.intro Bool _ true ?_ | refine @Exists.intro Way _ .call ?_)
      all_goals first
        | (exfalso; have := of_decide_eq_true ‹decide ((j : Int) < (cds.map Cd.row).length) = true›; omega)
        | (symm; apply idx_no; intro i c hc; exact hall i c (by have := (List.getElem?_eq_some_iff.1 hc).1; omega) hc)

def Cd.val (c : Cd) : List PV := [I c.k, I c.i, .str c.t]
/-- The values that the conditions give to the first columns of a key. -/
def pfx (cds : List Cd) : List Int → List (List PV)
  | [] => []
  | k :: r => match cds.find? (isEq k) with
    | some c => c.val :: pfx cds r
    | none => []
theorem pfx_le (cds : List Cd) : ∀ ks, (pfx cds ks).length ≤ ks.length
  | [] => Nat.le_refl _
  | k :: r => by
    unfold pfx
    split
    · simpa using pfx_le cds r
    · simp
abbrev keyRows (ks : List Int) : List (List PV) := ks.map fun k => [I k]
theorem keyRow_get {ks : List Int} {j : Nat} {k : Int} (h : ks[j]? = some k) : (keyRows ks)[((j : Nat) : Int).toNat]? = some [I k] := by
  have : ((j : Nat) : Int).toNat = j := rfl
  rw [this, List.getElem?_map, h]; rfl
abbrev tabA (nm cols : PV) (ks : List Int) (fo ch : PV) : AV := .agg [.pv nm, .pv cols, .pv (.vs 1 (keyRows ks)), .pv fo, .pv ch]

theorem c_prefix (nm cols : PV) (ks : List Int) (fo ch : PV) (e : Ex) (hf : e.fits) (hb : (leaves e).length ≤ 1099511627776) (hk : ks.length ≤ 1099511627776) : AFunR Tryz.prog 30 [tabA nm cols ks fo ch, .agg (pvs e.row)] (fun r => r = .pv (.vs 3 (pfx (leavesC e) ks))) := by
  have hcond := c_conditions e hf hb
  rw [leaves_cd, List.length_map] at hb
  rw [leaves_cd] at hcond
  have hklen : (keyRows ks).length = ks.length := List.length_map ..
  generalize leavesC e = cds at hcond hb ⊢
  obtain ⟨op, n, vk, vi, vt, s, args⟩ := e
  refine afun_body T_ok mixed Tryz.func30 rfl (ent_of Tryz.func30 rfl rfl) (Nat.le_of_ble_eq_true rfl) ?_
  repeat' (first | exact True.intro | apply And.intro | (intro h; exact Bool.noConfusion h) | exact ok_op (by kernel_rfl) | exact ok_tr (by kernel_rfl) | intro _ | refine callR_of_fun hcond.afun rfl ?_ | refine @Exists.intro Bool _ true ?_ | refine @Exists.intro Way _ .call ?_)
  refine ⟨fun m st => ∃ (j : Nat) (out : List (List PV)), j ≤ ks.length ∧ out.length = j ∧ out ++ pfx cds (ks.drop j) = pfx cds ks ∧ m = ks.length - j ∧ st = AS.on [(5, .pv (.vs 5 (cds.map Cd.row))), (6, .lv (.sl 2)), (13, .pv (.vs 1 (keyRows ks))), (14, .i (keyRows ks).length), (15, .i j)] [(2, .row 29 3 out)] 3 34 0 (fun _ => false), ⟨ks.length, _, ⟨0, [], Nat.zero_le _, rfl, rfl, rfl, rfl⟩, ?_⟩, ?_⟩
  · refine (weak_adopt (d := 6) (t := 29) (sz := 3) rfl).trans (weak_on rfl rfl rfl rfl ?_ ?_)
    · repeat' (first | exact True.intro | apply And.intro | (intro h; exact Bool.noConfusion h) | exact ok_op (by kernel_rfl) | exact ok_tr (by kernel_rfl) | intro _ | rfl | refine @Exists.intro Bool _ true ?_ | refine @Exists.intro Way _ .call ?_)
    · repeat' (first | exact True.intro | apply And.intro | (intro h; exact Bool.noConfusion h) | exact ok_op (by kernel_rfl) | exact ok_tr (by kernel_rfl) | intro _ | rfl | refine Exists.intro _ (And.intro rfl ?_) | refine @Exists.intro Bool _ true ?_ | refine @Exists.intro Way _ .call ?_)
  · rintro m st ⟨j, out, hj, ho, heq, rfl, rfl⟩
    by_cases hlt : j < ks.length
    · obtain ⟨k, hk1⟩ : ∃ k, ks[j]? = some k := ⟨_, List.getElem?_eq_getElem hlt⟩
      have hrow := keyRow_get hk1
      have hix := c_indexF cds k (by omega)
      have hdrop : ks.drop j = k :: ks.drop (j + 1) := by
        rw [List.drop_eq_getElem_cons hlt]
        rw [List.getElem?_eq_getElem hlt] at hk1
        rw [Option.some.inj hk1]
      rw [hdrop] at heq
      rcases idx_cases cds k with ⟨h1, h2⟩ | ⟨i, c, h1, h2, h3⟩
      · rw [h1] at hix
        rw [pfx, h2, List.append_nil] at heq
        repeat' (first | exact True.intro | apply And.intro | (intro h; exact Bool.noConfusion h) | exact ok_op (by kernel_rfl) | exact ok_tr (by kernel_rfl) | intro _ | refine Exists.intro _ (And.intro (Int.natCast_nonneg j) (And.intro hrow (And.intro rfl ?_))) | refine callR_of_frame_eq2 hix [3] rfl rfl ?_ rfl ?_ | apply fin_vs | rfl | refine @Exists.intro Bool _ true ?_ | refine @Exists.intro Way _ .call ?_)
        all_goals first
          | (exfalso; have := of_decide_eq_false ‹decide ((j : Int) < (keyRows ks).length) = false›; omega)
          | (exfalso; have := of_decide_eq_false ‹decide ((-1 : Int) < 0) = false›; omega)
          | exact ⟨heq⟩
          | exact heq
      · rw [h1] at hix
        rw [pfx, h3] at heq
        have hcrow := cdRow_get h2
        repeat' (first | exact True.intro | apply And.intro | (intro h; exact Bool.noConfusion h) | exact ok_op (by kernel_rfl) | exact ok_tr (by kernel_rfl) | intro _ | refine Exists.intro _ (And.intro (Int.natCast_nonneg j) (And.intro hrow (And.intro rfl ?_))) | refine Exists.intro _ (And.intro (Int.natCast_nonneg i) (And.intro hcrow (And.intro rfl ?_))) | refine callR_of_frame_eq2 hix [3] rfl rfl ?_ rfl ?_ | apply fin_vs | rfl | (simp only [chunk, List.length_cons, List.length_nil, ti29]; omega) | refine @Exists.intro Bool _ true ?_ | refine @Exists.intro Way _ .call ?_)
        all_goals first
          | (exfalso; have := of_decide_eq_false ‹decide ((j : Int) < (keyRows ks).length) = false›; omega)
          | (exfalso; have := of_decide_eq_true ‹decide ((i : Int) < 0) = true›; omega)
          | skip
        refine ⟨ks.length - (j + 1), _, by omega, ⟨j + 1, out ++ [c.val], hlt, by simp [ho], by rw [← heq]; simp, rfl, rfl⟩, weak_on rfl rfl rfl rfl ?_ ?_⟩
        · repeat' (first | exact True.intro | apply And.intro | (intro h; exact Bool.noConfusion h) | exact ok_op (by kernel_rfl) | exact ok_tr (by kernel_rfl) | intro _ | rfl | (apply fin_i; rw [wrap_id] <;> omega) | refine @Exists.intro Bool _ true ?_ | refine @Exists.intro Way _ .call ?_)
        · repeat' (first | exact True.intro | apply And.intro | (intro h; exact Bool.noConfusion h) | exact ok_op (by kernel_rfl) | exact ok_tr (by kernel_rfl) | intro _ | rfl | refine Exists.intro _ (And.intro rfl ?_) | refine @Exists.intro Bool _ true ?_ | refine @Exists.intro Way _ .call ?_)
    · have hje : j = ks.length := by omega
      rw [hje, List.drop_length, pfx, List.append_nil] at heq
      repeat' (first | exact True.intro | apply And.intro | (intro h; exact Bool.noConfusion h) | exact ok_op (by kernel_rfl) | exact ok_tr (by kernel_rfl) | intro _ | apply fin_vs | rfl | refine @Exists.intro Bool _ true ?_ | refine @Exists.intro Way _ .call ?_)
      all_goals first
        | (exfalso; have := of_decide_eq_true ‹decide ((j : Int) < (keyRows ks).length) = true›; omega)
        | exact ⟨heq⟩
        | exact heq

end Go.Proofs.YtijjagkeaehhbaaGreat.Eng

/- What access.Choose and the example of bitemporallaw49 compute. Each function's arguments are its condition. -/
set_option linter.unusedSimpArgs false
set_option linter.unusedVariables false
namespace Go.Proofs.YtijjagkeaehhbaaGreat.Eng
open Go.RowKit (Below)

/-- Whatever reads as p reads as q. -/
structure PLe (p q : PV) : Prop where
  le : ∀ (w : World) (S : Nat → Prop) (v : Value), PVR w S p v → PVR w S q v
theorem PLe.rfl (p : PV) : PLe p p := ⟨fun _ _ _ h => h⟩
theorem PLe.nils (sz : Nat) : PLe .nils (.vs sz []) := ⟨fun w S v h => by
  cases h
  exact .vs sz [] none 0 (fun _ _ => undef) (Nat.le_refl _) (Nat.zero_le _) (fun _ => Eq.refl _) (fun r hr => by cases hr) (fun h => absurd (Eq.refl _) h) (fun i j hi => absurd hi (Nat.not_lt_zero _)) (fun i j r p hr => by simp at hr)⟩
inductive PLes : List PV → List PV → Prop where
  | nil : PLes [] []
  | cons {p q ps qs} (h : PLe p q) (r : PLes ps qs) : PLes (p :: ps) (q :: qs)
theorem PLes.length {ps qs : List PV} (h : PLes ps qs) : qs.length = ps.length := by
  induction h with
  | nil => rfl
  | cons h r ih => simp [ih]
theorem PLes.get {ps qs : List PV} (h : PLes ps qs) : ∀ (i : Nat) (q : PV), qs[i]? = some q → ∃ p, ps[i]? = some p ∧ PLe p q := by
  induction h with
  | nil => intro i q hq; simp at hq
  | cons h r ih =>
    intro i q hq
    match i with
    | 0 => simp at hq; subst hq; exact ⟨_, Eq.refl _, h⟩
    | i + 1 => simpa using ih i q (by simpa using hq)
inductive RLes : List (List PV) → List (List PV) → Prop where
  | nil : RLes [] []
  | cons {p q ps qs} (h : PLes p q) (r : RLes ps qs) : RLes (p :: ps) (q :: qs)
theorem RLes.length {ps qs : List (List PV)} (h : RLes ps qs) : qs.length = ps.length := by
  induction h with
  | nil => rfl
  | cons h r ih => simp [ih]
theorem RLes.get {ps qs : List (List PV)} (h : RLes ps qs) : ∀ (i : Nat) (q : List PV), qs[i]? = some q → ∃ p, ps[i]? = some p ∧ PLes p q := by
  induction h with
  | nil => intro i q hq; simp at hq
  | cons h r ih =>
    intro i q hq
    match i with
    | 0 => simp at hq; subst hq; exact ⟨_, Eq.refl _, h⟩
    | i + 1 => simpa using ih i q (by simpa using hq)
theorem PLe.vs (sz : Nat) {rows rows' : List (List PV)} (h : RLes rows rows') : PLe (.vs sz rows) (.vs sz rows') := ⟨fun w S v hv => by
  cases hv with
  | vs _ _ A cap f hc hm hN hs hA h1 hp =>
    have hl := h.length
    have key := PVR.vs (w := w) (S := S) sz rows' A cap f (by rw [hl]; exact hc) hm hN (fun r hr => by
        obtain ⟨i, hi⟩ := List.getElem?_of_mem hr
        obtain ⟨p, h2, h3⟩ := h.get i r hi
        rw [h3.length]
        exact hs p (List.mem_of_getElem? h2))
      (fun hne => by
        rw [hl]
        exact hA fun h0 => by
          subst h0
          cases h
          exact hne (Eq.refl _))
      (by rw [hl]; exact h1)
      (fun i j r p hr hj => by
        obtain ⟨q, h2, h3⟩ := h.get i r hr
        obtain ⟨p', h4, h5⟩ := h3.get j p hj
        exact h5.le _ _ _ (hp i j q p' h2 h4))
    rw [hl] at key
    exact key⟩
theorem ale {ps qs : List PV} (h : PLes ps qs) {w : World} {S : Nat → Prop} {σ : Nat → Value} {n : Nat} {v : Value} (hv : AVR w S σ n (.agg (pvs ps)) v) : AVR w S σ n (.agg (pvs qs)) v := by
  obtain ⟨vs, rfl, h1, h2⟩ := agg_of hv
  refine .one (.agg ⟨by rw [h1, (pvs_spec ps).1, (pvs_spec qs).1, h.length], fun i x hx => ?_⟩)
  obtain ⟨q, hq, rfl⟩ := (pvs_spec qs).2.1 i x hx
  obtain ⟨p, hp, hle⟩ := h.get i q hq
  obtain ⟨v, h3, h4⟩ := h2 i _ ((pvs_spec ps).2.2 i p hp)
  cases h4 with
  | pv h4 => exact ⟨v, h3, .pv (hle.le _ _ _ h4)⟩
theorem AFunR.wk {P : Program} {g : Nat} {args : List AV} {r r' : AV} (h : AFunR P g args (fun x => x = r)) (hr : ∀ (w : World) (S : Nat → Prop) (v : Value), AVR w S (fun _ => undef) 0 r v → AVR w S (fun _ => undef) 0 r' v) : AFunR P g args (fun x => x = r') :=
  ⟨h.1, fun w S hS vs hn hv => (h.2 w S hS vs hn hv).mono fun e w' ⟨v, x, h1, h2, h3, h4⟩ => ⟨v, r', rfl, h2, h3, hr _ _ _ (by subst h1; exact h4)⟩⟩

/-- A comparison of a column with a number. -/
def cmpE (op i n : Int) : Ex := .mk op 0 0 0 ⟨#[]⟩ ⟨#[]⟩ [.mk 2 i 0 0 ⟨#[]⟩ ⟨#[]⟩ [], .mk 1 0 1 n ⟨#[]⟩ ⟨#[]⟩ []]
theorem c_compare (op i n : Int) : AFunR Tryz.prog 24 [.i op, .i i, .i n] (fun r => r = .agg (pvs (cmpE op i n).row)) := by
  have h : AFunR Tryz.prog 24 [.i op, .i i, .i n] (fun r => r = .agg (pvs [I op, I 0, I 0, I 0, .str ⟨#[]⟩, .str ⟨#[]⟩, .vs 7 [[I 2, I i, I 0, I 0, .str ⟨#[]⟩, .str ⟨#[]⟩, .nils], [I 1, I 0, I 1, I n, .str ⟨#[]⟩, .str ⟨#[]⟩, .nils]]])) := by
    refine afun_body T_ok mixed Tryz.func24 rfl (ent_of Tryz.func24 rfl rfl) (Nat.le_of_ble_eq_true rfl) ?_
    repeat' (first | exact True.intro | apply And.intro | (intro h; exact Bool.noConfusion h) | exact ok_op (by kernel_rfl) | exact ok_tr (by kernel_rfl) | intro _ | rfl | refine @Exists.intro Bool _ true ?_ | refine @Exists.intro Way _ .call ?_)
  refine h.wk fun w S v hv => ale ?_ hv
  refine .cons (.rfl _) (.cons (.rfl _) (.cons (.rfl _) (.cons (.rfl _) (.cons (.rfl _) (.cons (.rfl _) (.cons (.vs 7 ?_) .nil))))))
  exact .cons (.cons (.rfl _) (.cons (.rfl _) (.cons (.rfl _) (.cons (.rfl _) (.cons (.rfl _) (.cons (.rfl _) (.cons (.nils 7) .nil))))))) (.cons (.cons (.rfl _) (.cons (.rfl _) (.cons (.rfl _) (.cons (.rfl _) (.cons (.rfl _) (.cons (.rfl _) (.cons (.nils 7) .nil))))))) .nil)

abbrev pathP (k : Int) (key : PV) (a b c d : Int) : AV := .agg [li k, .pv key, li a, li b, li c, li d]
def chooseA (s : Int × Int) (d0 d1 : Int) (key : List (List PV)) : AV :=
  if 0 < key.length then pathP 1 (.vs 3 key) 0 0 0 0
  else if validB s.1 s.2 = false then pathP 0 .nils 0 0 0 0
  else if (s.1 == 0 && s.2 == 1099511627776) = false then pathP 3 .nils d0 d1 s.1 s.2
  else if (d0 == 0 && d1 == 1099511627776) = false then pathP 2 .nils d0 d1 0 0
  else pathP 0 .nils 0 0 0 0
theorem c_choose (nm cols : PV) (ks : List Int) (fo ch : PV) (e : Ex) (k a b d0 d1 : Int) (hf : e.fits) (hb : (leaves e).length ≤ 1099511627776) (hk : ks.length ≤ 1099511627776) :
    AFunR Tryz.prog 13 [tabA nm cols ks fo ch, .agg (pvs e.row), .agg [li k, li a, li b], per d0 d1] (fun r => r = chooseA (sysF k a b) d0 d1 (pfx (leavesC e) ks)) := by
  have hp := c_prefix nm cols ks fo ch e hf hb hk
  have hs := c_system k a b
  generalize sysF k a b = s at hs ⊢
  obtain ⟨s0, s1⟩ := s
  generalize pfx (leavesC e) ks = key at hp ⊢
  obtain ⟨op, n, vk, vi, vt, s, args⟩ := e
  refine afun_body T_ok mixed Tryz.func13 rfl (ent_of Tryz.func13 rfl rfl) (Nat.le_of_ble_eq_true rfl) ?_
  repeat' (first | exact True.intro | apply And.intro | (intro h; exact Bool.noConfusion h) | exact ok_op (by kernel_rfl) | exact ok_tr (by kernel_rfl) | intro _ | refine callR_of_fun hs.afun rfl ?_ | refine callR_of_fun hp.afun rfl ?_ | refine callR_of_fun (c_valid _ _).afun rfl ?_ | refine Exists.intro _ (And.intro (ne_per _ _ _ _ _ _) ?_) | refine fin_to (y := .agg [_, _, _, _, _, _]) rfl ?_ | refine @Exists.intro Bool _ true ?_ | refine @Exists.intro Way _ .call ?_)
  all_goals (refine ⟨?_⟩; clear hs hp hf hb; unfold chooseA; grind)

end Go.Proofs.YtijjagkeaehhbaaGreat.Eng
