/- What the small functions of the package access compute. Each function's arguments are its condition. -/
import Derived.Test.YtijjagkeaehhbaaEqs
set_option linter.unusedSimpArgs false
set_option linter.unusedVariables false
namespace Go.Proofs.Ytijjagkeaehhbaa.Eng
open Go.RowKit (Below)

def validB (x y : Int) : Bool := decide (0 ≤ x) && decide (x < y) && decide (y ≤ 1099511627776)
theorem c_valid (x y : Int) : AFunR Try.prog 48 [per x y] (fun r => r = .b (validB x y)) := by
  refine afun_body T_ok mixed Try.func48 rfl (ent_of Try.func48 rfl rfl) (Nat.le_of_ble_eq_true rfl) ?_
  repeat' (first | exact True.intro | apply And.intro | (intro h; exact Bool.noConfusion h) | intro _ | apply fin_b)
  all_goals (unfold validB; grind)

def sysF (k a b : Int) : Int × Int :=
  if k = 0 then (1099511627775, 1099511627776) else if k = 1 then (a, IntKind.i64.wrap (a + 1)) else if k = 2 then (a, b) else if k = 3 then (a, IntKind.i64.wrap (b + 1)) else if k = 4 then (0, 1099511627776) else (0, 0)
theorem fin_per {a b c d : Int} (h : a = c ∧ b = d) : per a b = per c d := by rw [h.1, h.2]
theorem c_system (k a b : Int) : AFunR Try.prog 46 [.agg [li k, li a, li b]] (fun r => r = per (sysF k a b).1 (sysF k a b).2) := by
  refine afun_body T_ok mixed Try.func46 rfl (ent_of Try.func46 rfl rfl) (Nat.le_of_ble_eq_true rfl) ?_
  repeat' (first | exact True.intro | apply fin_per | apply And.intro | (intro h; exact Bool.noConfusion h) | intro _)
  all_goals (unfold sysF; simp_all)

def mirF (k : Int) : Int := if k = 9 then 11 else if k = 11 then 9 else if k = 10 then 12 else if k = 12 then 10 else k
theorem c_mirrored (k : Int) : AFunR Try.prog 136 [.i k] (fun r => r = .i (mirF k)) := by
  refine afun_body T_ok mixed Try.func136 rfl (ent_of Try.func136 rfl rfl) (Nat.le_of_ble_eq_true rfl) ?_
  repeat' (first | exact True.intro | apply fin_i | apply And.intro | (intro h; exact Bool.noConfusion h) | intro _)
  all_goals (unfold mirF; simp_all)

def partF (n d : Int) : Int := IntKind.i64.wrap (IntKind.i64.wrap (n.tdiv d) + if n.tmod d < 1 then n.tmod d else 1)
theorem c_part (n d : Int) (hd : d ≠ 0) : AFunR Try.prog 53 [.i n, .i d] (fun r => r = .i (partF n d)) := by
  refine afun_body T_ok mixed Try.func53 rfl (ent_of Try.func53 rfl rfl) (Nat.le_of_ble_eq_true rfl) ?_
  repeat' (first | exact True.intro | exact hd | exact ok_op (by kernel_rfl) | exact ok_tr (by kernel_rfl) | apply fin_i | apply And.intro | (intro h; exact Bool.noConfusion h) | intro _)
  all_goals rfl

def upF (n d : Int) : Int := if IntKind.i64.wrap (IntKind.i64.wrap (n.tdiv d) * d) < n then IntKind.i64.wrap (IntKind.i64.wrap (n.tdiv d) + 1) else IntKind.i64.wrap (n.tdiv d)
theorem c_up (n d : Int) (hd : d ≠ 0) : AFunR Try.prog 54 [.i n, .i d] (fun r => r = .i (upF n d)) := by
  refine afun_body T_ok mixed Try.func54 rfl (ent_of Try.func54 rfl rfl) (Nat.le_of_ble_eq_true rfl) ?_
  repeat' (first | exact True.intro | exact hd | apply fin_i | apply And.intro | (intro h; exact Bool.noConfusion h) | intro _)
  all_goals (unfold upF; grind)

/-- A path. -/
abbrev pathA (k : Int) (key : List (List PV)) (a b c d : Int) : AV := .agg [li k, .pv (.vs 3 key), li a, li b, li c, li d]
def ofF (k : Int) (key : List (List PV)) (a b c d : Int) : AV :=
  if k = 0 then .pv (.ifa 138 []) else if k = 1 then .pv (.ifa 101 [.vs 3 key]) else if k = 2 then .pv (.ifa 97 [.int .i64 a, .int .i64 b])
  else if k = 3 then .pv (.ifa 99 [.int .i64 a, .int .i64 b, .int .i64 c, .int .i64 d]) else .pv .nilif
theorem pure_scan {ev : Operand → AV} {dst : Option Tmp} {ty : TypeId} {pos : String} {af : Array Edge} {gd : Option (Nat × Bool)} : PureOp Try.prog ⟨dst, .build 138 #[], ty, pos, af, gd⟩ ev (.agg []) := by
  constructor
  intro w S σ n ρ hρ
  refine ⟨.agg #[], ?_, .one (.agg ⟨rfl, by simp⟩)⟩
  simp only [execOp]
  refine run_v ?_
  exact run_build w 138 _ _ (by kernel_rfl)
theorem c_of (k : Int) (key : List (List PV)) (a b c d : Int) : AFunR Try.prog 52 [pathA k key a b c d] (fun r => r = ofF k key a b c d) := by
  refine afun_body T_ok mixed Try.func52 rfl (ent_of Try.func52 rfl rfl) (Nat.le_of_ble_eq_true rfl) ?_
  repeat' (first | exact True.intro | apply And.intro | (intro h; exact Bool.noConfusion h) | intro _ | refine ⟨_, pure_scan, ?_⟩ | refine ⟨_, pure_mk rfl rfl (by kernel_rfl), ?_⟩ | refine fin_to (y := .pv (.ifa _ _)) rfl ?_ | refine fin_to (y := .pv .nilif) rfl ?_)
  all_goals (refine ⟨?_⟩; unfold ofF; simp_all)


def partN (n : Int) : Nat → Int
  | 0 => n
  | k + 1 => partF (partN n k) 16
def max0 (n : Int) : Int := if n < 0 then 0 else n
def costF (k : Int) (len : Nat) (n : Int) : Int := if k = 2 then partF (max0 n) 2 else if k = 3 then partF (max0 n) 4 else if k = 1 then partN (max0 n) len else max0 n
theorem c_cost (k : Int) (key : List (List PV)) (a b c d n : Int) (hk : key.length ≤ 9223372036854775807) : AFunR Try.prog 17 [pathA k key a b c d, .i n] (fun r => r = .i (costF k key.length n)) := by
  have hof := c_of k key a b c d
  refine afun_body T_ok mixed Try.func17 rfl (ent_of Try.func17 rfl rfl) (Nat.le_of_ble_eq_true rfl) ?_
  by_cases h0 : k = 0
  · subst h0
    rw [show ofF 0 key a b c d = .pv (.ifa 138 []) from rfl] at hof
    repeat' (first | exact True.intro | apply And.intro | (intro h; exact Bool.noConfusion h) | exact ok_op (by kernel_rfl) | exact ok_tr (by kernel_rfl) | intro _ | refine callR_of_fun hof.afun rfl ?_ | refine callR_of_fun (c_part _ _ (by decide)).afun rfl ?_ | refine ⟨_, pure_hit rfl (by kernel_rfl), ?_⟩ | refine ⟨_, pure_miss T_ok rfl rfl rfl (by kernel_rfl) rfl, ?_⟩ | apply fin_i | refine @Exists.intro Bool _ true ?_ | refine @Exists.intro Way _ .call ?_)
    all_goals (simp [costF, max0])
  by_cases h2 : k = 2
  · subst h2
    rw [show ofF 2 key a b c d = .pv (.ifa 97 [.int .i64 a, .int .i64 b]) from rfl] at hof
    repeat' (first | exact True.intro | apply And.intro | (intro h; exact Bool.noConfusion h) | exact ok_op (by kernel_rfl) | exact ok_tr (by kernel_rfl) | intro _ | refine callR_of_fun hof.afun rfl ?_ | refine callR_of_fun (c_part _ _ (by decide)).afun rfl ?_ | refine ⟨_, pure_hit rfl (by kernel_rfl), ?_⟩ | refine ⟨_, pure_miss T_ok rfl rfl rfl (by kernel_rfl) rfl, ?_⟩ | apply fin_i | refine @Exists.intro Bool _ true ?_ | refine @Exists.intro Way _ .call ?_)
    all_goals (simp [costF, max0])
  by_cases h3 : k = 3
  · subst h3
    rw [show ofF 3 key a b c d = .pv (.ifa 99 [.int .i64 a, .int .i64 b, .int .i64 c, .int .i64 d]) from rfl] at hof
    repeat' (first | exact True.intro | apply And.intro | (intro h; exact Bool.noConfusion h) | exact ok_op (by kernel_rfl) | exact ok_tr (by kernel_rfl) | intro _ | refine callR_of_fun hof.afun rfl ?_ | refine callR_of_fun (c_part _ _ (by decide)).afun rfl ?_ | refine ⟨_, pure_hit rfl (by kernel_rfl), ?_⟩ | refine ⟨_, pure_miss T_ok rfl rfl rfl (by kernel_rfl) rfl, ?_⟩ | apply fin_i | refine @Exists.intro Bool _ true ?_ | refine @Exists.intro Way _ .call ?_)
    all_goals (simp [costF, max0])
  by_cases h1 : k = 1
  · subst h1
    rw [show ofF 1 key a b c d = .pv (.ifa 101 [.vs 3 key]) from rfl] at hof
    repeat' (first | exact True.intro | apply And.intro | (intro h; exact Bool.noConfusion h) | exact ok_op (by kernel_rfl) | exact ok_tr (by kernel_rfl) | intro _ | refine callR_of_fun hof.afun rfl ?_ | refine callR_of_fun (c_part _ _ (by decide)).afun rfl ?_ | refine ⟨_, pure_hit rfl (by kernel_rfl), ?_⟩ | refine ⟨_, pure_miss T_ok rfl rfl rfl (by kernel_rfl) rfl, ?_⟩ | apply fin_i | refine @Exists.intro Bool _ true ?_ | refine @Exists.intro Way _ .call ?_)
    refine ⟨fun m s => ∃ j : Nat, j ≤ key.length ∧ m = key.length - j ∧ s = AS.on [(1, .i (partN (max0 n) j)), (27, .i key.length), (28, .i j)] [] 0 34 0 (fun _ => false), ⟨key.length, _, ⟨0, Nat.zero_le _, rfl, rfl⟩, ?_⟩, ?_⟩
    · refine weak_on rfl rfl rfl rfl ?_ ?_
      repeat' (first | exact True.intro | apply And.intro | (intro h; exact Bool.noConfusion h) | exact ok_op (by kernel_rfl) | exact ok_tr (by kernel_rfl) | intro _ | rfl | refine @Exists.intro Bool _ true ?_ | refine @Exists.intro Way _ .call ?_)
    · rintro m s ⟨j, hj, rfl, rfl⟩
      repeat' (first | exact True.intro | apply And.intro | (intro h; exact Bool.noConfusion h) | exact ok_op (by kernel_rfl) | exact ok_tr (by kernel_rfl) | intro _ | refine callR_of_fun (c_part _ _ (by decide)).afun rfl ?_ | apply fin_i | refine @Exists.intro Bool _ true ?_ | refine @Exists.intro Way _ .call ?_)
      · have hlt : j < key.length := by have := of_decide_eq_true ‹decide ((j : Int) < key.length) = true›; omega
        refine ⟨key.length - (j + 1), _, by omega, ⟨j + 1, hlt, rfl, rfl⟩, weak_on rfl rfl rfl rfl ?_ ?_⟩
        · repeat' (first | exact True.intro | apply And.intro | (intro h; exact Bool.noConfusion h) | exact ok_op (by kernel_rfl) | exact ok_tr (by kernel_rfl) | intro _ | rfl | (apply fin_i; rw [wrap_id] <;> omega) | refine @Exists.intro Bool _ true ?_ | refine @Exists.intro Way _ .call ?_)
        · repeat' (first | exact True.intro | apply And.intro | (intro h; exact Bool.noConfusion h) | exact ok_op (by kernel_rfl) | exact ok_tr (by kernel_rfl) | intro _ | rfl | refine @Exists.intro Bool _ true ?_ | refine @Exists.intro Way _ .call ?_)
      · have hge : j = key.length := by have := of_decide_eq_false ‹decide ((j : Int) < key.length) = false›; omega
        subst hge
        simp [costF]
  · rw [show ofF k key a b c d = .pv .nilif from by simp [ofF, h0, h1, h2, h3]] at hof
    repeat' (first | exact True.intro | apply And.intro | (intro h; exact Bool.noConfusion h) | exact ok_op (by kernel_rfl) | exact ok_tr (by kernel_rfl) | intro _ | refine callR_of_fun hof.afun rfl ?_ | refine callR_of_fun (c_part _ _ (by decide)).afun rfl ?_ | refine ⟨_, pure_nil T_ok rfl rfl rfl (by kernel_rfl), ?_⟩ | apply fin_i | refine @Exists.intro Bool _ true ?_ | refine @Exists.intro Way _ .call ?_)
    all_goals (simp [costF, max0, h1, h2, h3])

def upN (n : Int) : Nat → Int
  | 0 => n
  | k + 1 => upF (upN n k) 16
def rcostF (k : Int) (len : Nat) (n : Int) : Int := if k = 2 then upF (max0 n) 2 else if k = 3 then upF (max0 n) 4 else if k = 1 then upN (max0 n) len else max0 n
theorem c_rcost (k : Int) (key : List (List PV)) (a b c d n : Int) (hk : key.length ≤ 9223372036854775807) : AFunR Try.prog 18 [pathA k key a b c d, .i n] (fun r => r = .i (rcostF k key.length n)) := by
  refine afun_body T_ok mixed Try.func18 rfl (ent_of Try.func18 rfl rfl) (Nat.le_of_ble_eq_true rfl) ?_
  repeat' (first | exact True.intro | apply And.intro | (intro h; exact Bool.noConfusion h) | exact ok_op (by kernel_rfl) | exact ok_tr (by kernel_rfl) | intro _ | refine callR_of_fun (c_up _ _ (by decide)).afun rfl ?_ | apply fin_i | refine @Exists.intro Bool _ true ?_ | refine @Exists.intro Way _ .call ?_)
  · have h2 : k = 2 := by have := ‹(k == 2) = true›; simpa using this
    simp [rcostF, h2, max0]
  · have h3 : k = 3 := by have := ‹(k == 3) = true›; simpa using this
    simp [rcostF, h3, max0]
  · have h1 : k = 1 := by have := ‹(k == 1) = true›; simpa using this
    refine ⟨fun m s => ∃ j : Nat, j ≤ key.length ∧ m = key.length - j ∧ s = AS.on [(2, .lv (.ptr 0 0)), (5, .i (upN (max0 n) j)), (6, .i j)] [(0, .box 43 [li k, .pv (.vs 3 key), li a, li b, li c, li d])] 1 31 0 (fun _ => false), ⟨key.length, _, ⟨0, Nat.zero_le _, rfl, rfl⟩, ?_⟩, ?_⟩
    · refine weak_on rfl rfl rfl rfl ?_ ?_
      · repeat' (first | exact True.intro | apply And.intro | (intro h; exact Bool.noConfusion h) | exact ok_op (by kernel_rfl) | exact ok_tr (by kernel_rfl) | intro _ | rfl | refine @Exists.intro Bool _ true ?_ | refine @Exists.intro Way _ .call ?_)
      · repeat' (first | exact True.intro | apply And.intro | (intro h; exact Bool.noConfusion h) | exact ok_op (by kernel_rfl) | exact ok_tr (by kernel_rfl) | intro _ | rfl | refine ⟨_, rfl, ?_⟩ | refine @Exists.intro Bool _ true ?_ | refine @Exists.intro Way _ .call ?_)
    · rintro m s ⟨j, hj, rfl, rfl⟩
      repeat' (first | exact True.intro | apply And.intro | (intro h; exact Bool.noConfusion h) | exact ok_op (by kernel_rfl) | exact ok_tr (by kernel_rfl) | intro _ | refine callR_of_fun (c_up _ _ (by decide)).afun rfl ?_ | apply fin_i | refine @Exists.intro Bool _ true ?_ | refine @Exists.intro Way _ .call ?_)
      · have hlt : j < key.length := by have := of_decide_eq_true ‹decide ((j : Int) < key.length) = true›; omega
        refine ⟨key.length - (j + 1), _, by omega, ⟨j + 1, hlt, rfl, rfl⟩, weak_on rfl rfl rfl rfl ?_ ?_⟩
        · repeat' (first | exact True.intro | apply And.intro | (intro h; exact Bool.noConfusion h) | exact ok_op (by kernel_rfl) | exact ok_tr (by kernel_rfl) | intro _ | rfl | (apply fin_i; rw [wrap_id] <;> omega) | refine @Exists.intro Bool _ true ?_ | refine @Exists.intro Way _ .call ?_)
        · repeat' (first | exact True.intro | apply And.intro | (intro h; exact Bool.noConfusion h) | exact ok_op (by kernel_rfl) | exact ok_tr (by kernel_rfl) | intro _ | rfl | refine ⟨_, rfl, ?_⟩ | refine @Exists.intro Bool _ true ?_ | refine @Exists.intro Way _ .call ?_)
      · have hge : j = key.length := by have := of_decide_eq_false ‹decide ((j : Int) < key.length) = false›; omega
        subst hge
        simp [rcostF, h1]
  · have h1 : k ≠ 1 := by have := ‹(k == 1) = false›; simpa using this
    have h2 : k ≠ 2 := by have := ‹(k == 2) = false›; simpa using this
    have h3 : k ≠ 3 := by have := ‹(k == 3) = false›; simpa using this
    simp [rcostF, h1, h2, h3, max0]

theorem up_part {n d : Int} (hn : 0 ≤ n) (hx : n ≤ 9223372036854775807) (hd : 2 ≤ d) (hd' : d ≤ 16) : partF n d = upF n d ∧ 0 ≤ upF n d ∧ upF n d ≤ n := by
  have h1 : n.tdiv d = n / d := Int.tdiv_eq_ediv_of_nonneg hn
  have h2 : n.tmod d = n % d := Int.tmod_eq_emod_of_nonneg hn
  have h3 : 0 ≤ n / d := Int.ediv_nonneg hn (by omega)
  have h4 : n / d ≤ n := Int.ediv_le_self d hn
  have h5 : d * (n / d) + n % d = n := Int.mul_ediv_add_emod n d
  have h6 : 0 ≤ n % d := Int.emod_nonneg n (by omega)
  have h7 : n % d < d := Int.emod_lt_of_pos n (by omega)
  have h8 : 2 * (n / d) ≤ d * (n / d) := Int.mul_le_mul_of_nonneg_right hd h3
  have h9 : n / d * d = d * (n / d) := Int.mul_comm _ _
  unfold partF upF
  rw [h1, h2, wrap_id (n := n / d) (by omega) (by omega), h9, wrap_id (n := d * (n / d)) (by omega) (by omega)]
  by_cases h : n % d < 1
  · rw [if_pos h, if_neg (by omega), wrap_id (by omega) (by omega)]
    omega
  · rw [if_neg h, if_pos (by omega), wrap_id (by omega) (by omega)]
    omega
theorem upN_part {n : Int} (hn : 0 ≤ n) (hx : n ≤ 9223372036854775807) : ∀ k, partN n k = upN n k ∧ 0 ≤ upN n k ∧ upN n k ≤ n
  | 0 => ⟨rfl, hn, Int.le_refl _⟩
  | k + 1 => by
    obtain ⟨h1, h2, h3⟩ := upN_part hn hx k
    obtain ⟨h4, h5, h6⟩ := up_part h2 (show upN n k ≤ 9223372036854775807 by omega) (show (2 : Int) ≤ 16 by omega) (by omega)
    exact ⟨by rw [partN, h1, h4]; rfl, h5, by rw [upN]; omega⟩
theorem cost_eq (k : Int) (len : Nat) {n : Int} (hx : n ≤ 9223372036854775807) : costF k len n = rcostF k len n := by
  have h0 : 0 ≤ max0 n := by unfold max0; split <;> omega
  have h1 : max0 n ≤ 9223372036854775807 := by unfold max0; split <;> omega
  unfold costF rcostF
  rw [(up_part h0 h1 (show (2 : Int) ≤ 2 by omega) (by omega)).1, (up_part h0 h1 (show (2 : Int) ≤ 4 by omega) (by omega)).1, (upN_part h0 h1 len).1]

end Go.Proofs.Ytijjagkeaehhbaa.Eng
