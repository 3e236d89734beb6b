/- What the reference's check of an expression computes (kinds, arity, depth). Each function's arguments and the stated bounds are its condition. -/
import Derived.Test.YtijjagkeaehhbaaAnb
set_option linter.unusedSimpArgs false
set_option linter.unusedVariables false
namespace Go.Proofs.Ytijjagkeaehhbaa.Eng
open Go.RowKit (Below)

/-- The rows of columns: a name, a kind, whether it may be null. -/
structure Co where
  n : ByteArray
  k : Int
  z : Bool
def Co.row (c : Co) : List PV := [.str c.n, I c.k, .bool c.z]
theorem coRow_get {a : List Co} {j : Nat} {v : Co} (h : a[j]? = some v) : (a.map Co.row)[((j : Nat) : Int).toNat]? = some v.row := by
  have : ((j : Nat) : Int).toNat = j := rfl
  rw [this, List.getElem?_map, h]; rfl
abbrev tabC (nm : PV) (cs : List Co) (key fo ch : PV) : AV := .agg [.pv nm, .pv (.vs 3 (cs.map Co.row)), .pv key, .pv fo, .pv ch]
abbrev intsA (l : List Int) : AV := .pv (.vs 1 (keyRows l))

theorem c_kinds (nm : PV) (cs : List Co) (key fo ch : PV) (hc : cs.length ≤ 1099511627776) : AFunR Try.prog 41 [tabC nm cs key fo ch] (fun r => r = intsA (cs.map Co.k)) := by
  have hlen : (cs.map Co.row).length = cs.length := List.length_map ..
  refine afun_body T_ok mixed Try.func41 rfl (ent_of Try.func41 rfl rfl) (Nat.le_of_ble_eq_true rfl) ?_
  repeat' (first | exact True.intro | apply And.intro | (intro h; exact Bool.noConfusion h) | exact ok_op (by kernel_rfl) | exact ok_tr (by kernel_rfl) | intro _ | rfl | refine @Exists.intro Bool _ true ?_ | refine @Exists.intro Way _ .call ?_)
  refine ⟨fun m st => ∃ (j : Nat) (out : List (List PV)), j ≤ cs.length ∧ out = keyRows ((cs.take j).map Co.k) ∧ m = cs.length - j ∧ st = AS.on [(1, .lv (.ptr 0 0)), (3, .lv (.sl 1)), (4, .i j)] [(0, .box 27 [.pv nm, .pv (.vs 3 (cs.map Co.row)), .pv key, .pv fo, .pv ch]), (1, .row 3 1 out)] 2 23 0 (fun _ => false), ⟨cs.length, _, ⟨0, [], Nat.zero_le _, rfl, rfl, rfl⟩, ?_⟩, ?_⟩
  · refine weak_on rfl rfl rfl rfl ?_ ?_
    · repeat' (first | exact True.intro | apply And.intro | (intro h; exact Bool.noConfusion h) | exact ok_op (by kernel_rfl) | exact ok_tr (by kernel_rfl) | intro _ | rfl | refine @Exists.intro Bool _ true ?_ | refine @Exists.intro Way _ .call ?_)
    · repeat' (first | exact True.intro | apply And.intro | (intro h; exact Bool.noConfusion h) | exact ok_op (by kernel_rfl) | exact ok_tr (by kernel_rfl) | intro _ | rfl | refine Exists.intro _ (And.intro rfl ?_) | refine @Exists.intro Bool _ true ?_ | refine @Exists.intro Way _ .call ?_)
  · rintro m st ⟨j, out, hj, hout, rfl, rfl⟩
    by_cases hlt : j < cs.length
    · obtain ⟨c, hc1⟩ : ∃ c, cs[j]? = some c := ⟨_, List.getElem?_eq_getElem hlt⟩
      have hrow := coRow_get hc1
      have hol : out.length ≤ 1099511627776 := by rw [hout, List.length_map, List.length_map, List.length_take]; omega
      have hnext : out ++ [[I c.k]] = keyRows ((cs.take (j + 1)).map Co.k) := by rw [List.take_add_one, hc1, hout]; simp
      obtain ⟨cn, ck, cz⟩ := c
      repeat' (first | exact True.intro | apply And.intro | (intro h; exact Bool.noConfusion h) | exact ok_op (by kernel_rfl) | exact ok_tr (by kernel_rfl) | intro _ | refine Exists.intro _ (And.intro (Int.natCast_nonneg j) (And.intro hrow (And.intro rfl ?_))) | refine @Exists.intro Bool _ false ?_ | rfl | (simp only [chunk, List.length_cons, List.length_nil, ti3]; omega) | refine @Exists.intro Bool _ true ?_ | refine @Exists.intro Way _ .call ?_)
      all_goals first
        | (exfalso; have := of_decide_eq_false ‹decide ((j : Int) < (cs.map Co.row).length) = false›; omega)
        | skip
      refine ⟨cs.length - (j + 1), _, by omega, ⟨j + 1, _, hlt, hnext, rfl, rfl⟩, weak_on rfl rfl rfl rfl ?_ ?_⟩
      · repeat' (first | exact True.intro | apply And.intro | (intro h; exact Bool.noConfusion h) | exact ok_op (by kernel_rfl) | exact ok_tr (by kernel_rfl) | intro _ | rfl | (apply fin_i; rw [wrap_id] <;> omega) | refine @Exists.intro Bool _ true ?_ | refine @Exists.intro Way _ .call ?_)
      · repeat' (first | exact True.intro | apply And.intro | (intro h; exact Bool.noConfusion h) | exact ok_op (by kernel_rfl) | exact ok_tr (by kernel_rfl) | intro _ | rfl | refine Exists.intro _ (And.intro rfl ?_) | refine @Exists.intro Bool _ true ?_ | refine @Exists.intro Way _ .call ?_)
    · have hje : j = cs.length := by omega
      rw [hje, List.take_length] at hout
      subst hout
      repeat' (first | exact True.intro | apply And.intro | (intro h; exact Bool.noConfusion h) | exact ok_op (by kernel_rfl) | exact ok_tr (by kernel_rfl) | intro _ | rfl | refine @Exists.intro Bool _ true ?_ | refine @Exists.intro Way _ .call ?_)
      all_goals (exfalso; have := of_decide_eq_true ‹decide ((j : Int) < (cs.map Co.row).length) = true›; omega)

def allK (kd : Int) : List Int → Bool
  | [] => true
  | k :: r => if (k != kd && k != 0) = true then false else allK kd r
theorem c_all (l : List Int) (kd : Int) (hl : l.length ≤ 9223372036854775807) : AFunR Try.prog 133 [intsA l, .i kd] (fun r => r = .b (allK kd l)) := by
  have hlen : (keyRows l).length = l.length := List.length_map ..
  refine afun_body T_ok mixed Try.func133 rfl (ent_of Try.func133 rfl rfl) (Nat.le_of_ble_eq_true rfl) ?_
  repeat' (first | exact True.intro | apply And.intro | (intro h; exact Bool.noConfusion h) | exact ok_op (by kernel_rfl) | exact ok_tr (by kernel_rfl) | intro _ | rfl | refine @Exists.intro Bool _ true ?_ | refine @Exists.intro Way _ .call ?_)
  refine ⟨fun m st => ∃ j : Nat, j ≤ l.length ∧ allK kd (l.drop j) = allK kd l ∧ m = l.length - j ∧ st = AS.on [(0, intsA l), (1, .i kd), (5, .i j)] [] 0 25 0 (fun _ => false), ⟨l.length, _, ⟨0, Nat.zero_le _, rfl, rfl, rfl⟩, ?_⟩, ?_⟩
  · refine weak_on rfl rfl rfl rfl ?_ ?_
    repeat' (first | exact True.intro | apply And.intro | (intro h; exact Bool.noConfusion h) | exact ok_op (by kernel_rfl) | exact ok_tr (by kernel_rfl) | intro _ | rfl | refine @Exists.intro Bool _ true ?_ | refine @Exists.intro Way _ .call ?_)
  · rintro m st ⟨j, hj, heq, rfl, rfl⟩
    by_cases hlt : j < l.length
    · obtain ⟨x, hx⟩ : ∃ x, l[j]? = some x := ⟨_, List.getElem?_eq_getElem hlt⟩
      have hrow := keyRow_get hx
      rw [drop_get hx, allK] at heq
      repeat' (first | exact True.intro | apply And.intro | (intro h; exact Bool.noConfusion h) | exact ok_op (by kernel_rfl) | exact ok_tr (by kernel_rfl) | intro _ | refine Exists.intro _ (And.intro (Int.natCast_nonneg j) (And.intro hrow (And.intro rfl ?_))) | apply fin_b | rfl | refine @Exists.intro Bool _ true ?_ | refine @Exists.intro Way _ .call ?_)
      all_goals first
        | (exfalso; have := of_decide_eq_false ‹decide ((j : Int) < (keyRows l).length) = false›; omega)
        | (rw [if_pos (by simp_all)] at heq; exact heq)
        | (refine ⟨l.length - (j + 1), _, by omega, ⟨j + 1, hlt, by rw [if_neg (by simp_all)] at heq; exact heq, rfl, rfl⟩, weak_on rfl rfl rfl rfl ?_ ?_⟩
           · repeat' (first | exact True.intro | apply And.intro | (intro h; exact Bool.noConfusion h) | exact ok_op (by kernel_rfl) | exact ok_tr (by kernel_rfl) | intro _ | rfl | (apply fin_i; rw [wrap_id] <;> omega) | refine @Exists.intro Bool _ true ?_ | refine @Exists.intro Way _ .call ?_)
           · repeat' (first | exact True.intro | apply And.intro | (intro h; exact Bool.noConfusion h) | exact ok_op (by kernel_rfl) | exact ok_tr (by kernel_rfl) | intro _ | rfl | refine @Exists.intro Bool _ true ?_ | refine @Exists.intro Way _ .call ?_))
    · have hje : j = l.length := by omega
      rw [hje, List.drop_length, allK] at heq
      repeat' (first | exact True.intro | apply And.intro | (intro h; exact Bool.noConfusion h) | exact ok_op (by kernel_rfl) | exact ok_tr (by kernel_rfl) | intro _ | apply fin_b | refine @Exists.intro Bool _ true ?_ | refine @Exists.intro Way _ .call ?_)
      all_goals first
        | (exfalso; have := of_decide_eq_true ‹decide ((j : Int) < (keyRows l).length) = true›; omega)
        | exact heq

def joinK (k : Int) : List Int → Int × Bool
  | [] => (k, true)
  | x :: r => if x = 0 then joinK k r else if (k != 0 && k != x) = true then (0, false) else joinK x r
theorem c_join (l : List Int) (hl : l.length ≤ 9223372036854775807) : AFunR Try.prog 134 [intsA l] (fun r => r = .tup [.lf (li (joinK 0 l).1), .lf (.pv (.bool (joinK 0 l).2))]) := by
  have hlen : (keyRows l).length = l.length := List.length_map ..
  refine afun_body T_ok mixed Try.func134 rfl (ent_of Try.func134 rfl rfl) (Nat.le_of_ble_eq_true rfl) ?_
  repeat' (first | exact True.intro | apply And.intro | (intro h; exact Bool.noConfusion h) | exact ok_op (by kernel_rfl) | exact ok_tr (by kernel_rfl) | intro _ | rfl | refine @Exists.intro Bool _ true ?_ | refine @Exists.intro Way _ .call ?_)
  refine ⟨fun m st => ∃ (j : Nat) (k : Int), j ≤ l.length ∧ joinK k (l.drop j) = joinK 0 l ∧ m = l.length - j ∧ st = AS.on [(0, intsA l), (4, .i k), (5, .i j)] [] 0 32 0 (fun _ => false), ⟨l.length, _, ⟨0, 0, Nat.zero_le _, rfl, rfl, rfl⟩, ?_⟩, ?_⟩
  · refine weak_on rfl rfl rfl rfl ?_ ?_
    repeat' (first | exact True.intro | apply And.intro | (intro h; exact Bool.noConfusion h) | exact ok_op (by kernel_rfl) | exact ok_tr (by kernel_rfl) | intro _ | rfl | refine @Exists.intro Bool _ true ?_ | refine @Exists.intro Way _ .call ?_)
  · rintro m st ⟨j, k, hj, heq, rfl, rfl⟩
    by_cases hlt : j < l.length
    · obtain ⟨x, hx⟩ : ∃ x, l[j]? = some x := ⟨_, List.getElem?_eq_getElem hlt⟩
      have hrow := keyRow_get hx
      rw [drop_get hx, joinK] at heq
      generalize joinK 0 l = R at heq ⊢
      repeat' (first | exact True.intro | apply And.intro | (intro h; exact Bool.noConfusion h) | exact ok_op (by kernel_rfl) | exact ok_tr (by kernel_rfl) | intro _ | refine Exists.intro _ (And.intro (Int.natCast_nonneg j) (And.intro hrow (And.intro rfl ?_))) | refine fin_to (y := .tup [.lf (li _), .lf (.pv (.bool _))]) rfl ?_ | rfl | refine @Exists.intro Bool _ true ?_ | refine @Exists.intro Way _ .call ?_)
      all_goals first
        | (exfalso; have := of_decide_eq_false ‹decide ((j : Int) < (keyRows l).length) = false›; omega)
        | (rw [if_neg (by simp_all), if_pos (by simp_all)] at heq; rw [← heq]; exact ⟨rfl⟩)
        | (refine ⟨l.length - (j + 1), _, by omega, ⟨j + 1, k, hlt, by rw [if_pos (by simp_all)] at heq; exact heq, rfl, rfl⟩, weak_on rfl rfl rfl rfl ?_ ?_⟩
           · repeat' (first | exact True.intro | apply And.intro | (intro h; exact Bool.noConfusion h) | exact ok_op (by kernel_rfl) | exact ok_tr (by kernel_rfl) | intro _ | rfl | (apply fin_i; rw [wrap_id] <;> omega) | refine @Exists.intro Bool _ true ?_ | refine @Exists.intro Way _ .call ?_)
           · repeat' (first | exact True.intro | apply And.intro | (intro h; exact Bool.noConfusion h) | exact ok_op (by kernel_rfl) | exact ok_tr (by kernel_rfl) | intro _ | rfl | refine @Exists.intro Bool _ true ?_ | refine @Exists.intro Way _ .call ?_))
        | (refine ⟨l.length - (j + 1), _, by omega, ⟨j + 1, x, hlt, by rw [if_neg (by simp_all), if_neg (by simp_all)] at heq; exact heq, rfl, rfl⟩, weak_on rfl rfl rfl rfl ?_ ?_⟩
           · repeat' (first | exact True.intro | apply And.intro | (intro h; exact Bool.noConfusion h) | exact ok_op (by kernel_rfl) | exact ok_tr (by kernel_rfl) | intro _ | rfl | (apply fin_i; rw [wrap_id] <;> omega) | refine @Exists.intro Bool _ true ?_ | refine @Exists.intro Way _ .call ?_)
           · repeat' (first | exact True.intro | apply And.intro | (intro h; exact Bool.noConfusion h) | exact ok_op (by kernel_rfl) | exact ok_tr (by kernel_rfl) | intro _ | rfl | refine @Exists.intro Bool _ true ?_ | refine @Exists.intro Way _ .call ?_))
    · have hje : j = l.length := by omega
      rw [hje, List.drop_length, joinK] at heq
      rw [← heq]
      repeat' (first | exact True.intro | apply And.intro | (intro h; exact Bool.noConfusion h) | exact ok_op (by kernel_rfl) | exact ok_tr (by kernel_rfl) | intro _ | refine fin_to (y := .tup [.lf (li _), .lf (.pv (.bool _))]) rfl ?_ | rfl | refine @Exists.intro Bool _ true ?_ | refine @Exists.intro Way _ .call ?_)
      all_goals first
        | (exfalso; have := of_decide_eq_true ‹decide ((j : Int) < (keyRows l).length) = true›; omega)
        | exact ⟨rfl⟩
end Go.Proofs.Ytijjagkeaehhbaa.Eng
