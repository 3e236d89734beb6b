/- What the reference's check of an expression computes (kinds, arity, depth). Each function's arguments and the stated bounds are its condition. And what follows in this text; each statement bears its conditions. -/
import Derived.Test.YtijjagkeaehhbaaGreatKch
/- What the reference's check of an expression computes (kinds, arity, depth). Each function's arguments and the stated bounds are its condition. -/
set_option linter.unusedSimpArgs false
set_option linter.unusedVariables false
namespace Go.Proofs.YtijjagkeaehhbaaGreat.Eng
open Go.RowKit (Below)

/-- The rows of columns: a name, a kind, whether it may be null. -/
structure Co where
  n : ByteArray
  k : Int
  z : Bool
def Co.row (c : Co) : List PV := [.str c.n, I c.k, .bool c.z]
theorem coRow_get {a : List Co} {j : Nat} {v : Co} (h : a[j]? = some v) : (a.map Co.row)[((j : Nat) : Int).toNat]? = some v.row := by
  have : ((j : Nat) : Int).toNat = j := rfl
  rw [this, List.getElem?_map, h]; rfl
abbrev tabC (nm : PV) (cs : List Co) (key fo ch : PV) : AV := .agg [.pv nm, .pv (.vs 3 (cs.map Co.row)), .pv key, .pv fo, .pv ch]
abbrev intsA (l : List Int) : AV := .pv (.vs 1 (keyRows l))

theorem c_kinds (nm : PV) (cs : List Co) (key fo ch : PV) (hc : cs.length ≤ 1099511627776) : AFunR Tryz.prog 20 [tabC nm cs key fo ch] (fun r => r = intsA (cs.map Co.k)) := by
  have hlen : (cs.map Co.row).length = cs.length := List.length_map ..
  refine afun_body T_ok mixed Tryz.func20 rfl (ent_of Tryz.func20 rfl rfl) (Nat.le_of_ble_eq_true rfl) ?_
  repeat' (first | exact True.intro | apply And.intro | (intro h; exact Bool.noConfusion h) | exact ok_op (by kernel_rfl) | exact ok_tr (by kernel_rfl) | intro _ | rfl | refine @Exists.intro Bool _ true ?_ | refine @Exists.intro Way _ .call ?_)
  refine ⟨fun m st => ∃ (j : Nat) (out : List (List PV)), j ≤ cs.length ∧ out = keyRows ((cs.take j).map Co.k) ∧ m = cs.length - j ∧ st = AS.on [(1, .lv (.ptr 0 0)), (3, .lv (.sl 1)), (4, .i j)] [(0, .box 27 [.pv nm, .pv (.vs 3 (cs.map Co.row)), .pv key, .pv fo, .pv ch]), (1, .row 3 1 out)] 2 23 0 (fun _ => false), ⟨cs.length, _, ⟨0, [], Nat.zero_le _, rfl, rfl, rfl⟩, ?_⟩, ?_⟩
  · refine weak_on rfl rfl rfl rfl ?_ ?_
    · repeat' (first | exact True.intro | apply And.intro | (intro h; exact Bool.noConfusion h) | exact ok_op (by kernel_rfl) | exact ok_tr (by kernel_rfl) | intro _ | rfl | refine @Exists.intro Bool _ true ?_ | refine @Exists.intro Way _ .call ?_)
    · repeat' (first | exact True.intro | apply And.intro | (intro h; exact Bool.noConfusion h) | exact ok_op (by kernel_rfl) | exact ok_tr (by kernel_rfl) | intro _ | rfl | refine Exists.intro _ (And.intro rfl ?_) | refine @Exists.intro Bool _ true ?_ | refine @Exists.intro Way _ .call ?_)
  · rintro m st ⟨j, out, hj, hout, rfl, rfl⟩
    by_cases hlt : j < cs.length
    · obtain ⟨c, hc1⟩ : ∃ c, cs[j]? = some c := ⟨_, List.getElem?_eq_getElem hlt⟩
      have hrow := coRow_get hc1
      have hol : out.length ≤ 1099511627776 := by rw [hout, List.length_map, List.length_map, List.length_take]; omega
      have hnext : out ++ [[I c.k]] = keyRows ((cs.take (j + 1)).map Co.k) := by rw [List.take_add_one, hc1, hout]; simp
      obtain ⟨cn, ck, cz⟩ := c
      repeat' (first | exact True.intro | apply And.intro | (intro h; exact Bool.noConfusion h) | exact ok_op (by kernel_rfl) | exact ok_tr (by kernel_rfl) | intro _ | refine Exists.intro _ (And.intro (Int.natCast_nonneg j) (And.intro hrow (And.intro rfl ?_))) | refine @Exists.intro Bool _ false ?_ | rfl | (simp only [chunk, List.length_cons, List.length_nil, ti3]; omega) | refine @Exists.intro Bool _ true ?_ | refine @Exists.intro Way _ .call ?_)
      all_goals first
        | (exfalso; have := of_decide_eq_false ‹decide ((j : Int) < (cs.map Co.row).length) = false›; omega)
        | skip
      refine ⟨cs.length - (j + 1), _, by omega, ⟨j + 1, _, hlt, hnext, rfl, rfl⟩, weak_on rfl rfl rfl rfl ?_ ?_⟩
      · repeat' (first | exact True.intro | apply And.intro | (intro h; exact Bool.noConfusion h) | exact ok_op (by kernel_rfl) | exact ok_tr (by kernel_rfl) | intro _ | rfl | (apply fin_i; rw [wrap_id] <;> omega) | refine @Exists.intro Bool _ true ?_ | refine @Exists.intro Way _ .call ?_)
      · repeat' (first | exact True.intro | apply And.intro | (intro h; exact Bool.noConfusion h) | exact ok_op (by kernel_rfl) | exact ok_tr (by kernel_rfl) | intro _ | rfl | refine Exists.intro _ (And.intro rfl ?_) | refine @Exists.intro Bool _ true ?_ | refine @Exists.intro Way _ .call ?_)
    · have hje : j = cs.length := by omega
      rw [hje, List.take_length] at hout
      subst hout
      repeat' (first | exact True.intro | apply And.intro | (intro h; exact Bool.noConfusion h) | exact ok_op (by kernel_rfl) | exact ok_tr (by kernel_rfl) | intro _ | rfl | refine @Exists.intro Bool _ true ?_ | refine @Exists.intro Way _ .call ?_)
      all_goals (exfalso; have := of_decide_eq_true ‹decide ((j : Int) < (cs.map Co.row).length) = true›; omega)

def allK (kd : Int) : List Int → Bool
  | [] => true
  | k :: r => if (k != kd && k != 0) = true then false else allK kd r
theorem c_all (l : List Int) (kd : Int) (hl : l.length ≤ 9223372036854775807) : AFunR Tryz.prog 143 [intsA l, .i kd] (fun r => r = .b (allK kd l)) := by
  have hlen : (keyRows l).length = l.length := List.length_map ..
  refine afun_body T_ok mixed Tryz.func143 rfl (ent_of Tryz.func143 rfl rfl) (Nat.le_of_ble_eq_true rfl) ?_
  repeat' (first | exact True.intro | apply And.intro | (intro h; exact Bool.noConfusion h) | exact ok_op (by kernel_rfl) | exact ok_tr (by kernel_rfl) | intro _ | rfl | refine @Exists.intro Bool _ true ?_ | refine @Exists.intro Way _ .call ?_)
  refine ⟨fun m st => ∃ j : Nat, j ≤ l.length ∧ allK kd (l.drop j) = allK kd l ∧ m = l.length - j ∧ st = AS.on [(0, intsA l), (1, .i kd), (5, .i j)] [] 0 25 0 (fun _ => false), ⟨l.length, _, ⟨0, Nat.zero_le _, rfl, rfl, rfl⟩, ?_⟩, ?_⟩
  · refine weak_on rfl rfl rfl rfl ?_ ?_
    repeat' (first | exact True.intro | apply And.intro | (intro h; exact Bool.noConfusion h) | exact ok_op (by kernel_rfl) | exact ok_tr (by kernel_rfl) | intro _ | rfl | refine @Exists.intro Bool _ true ?_ | refine @Exists.intro Way _ .call ?_)
  · rintro m st ⟨j, hj, heq, rfl, rfl⟩
    by_cases hlt : j < l.length
    · obtain ⟨x, hx⟩ : ∃ x, l[j]? = some x := ⟨_, List.getElem?_eq_getElem hlt⟩
      have hrow := keyRow_get hx
      rw [drop_get hx, allK] at heq
      repeat' (first | exact True.intro | apply And.intro | (intro h; exact Bool.noConfusion h) | exact ok_op (by kernel_rfl) | exact ok_tr (by kernel_rfl) | intro _ | refine Exists.intro _ (And.intro (Int.natCast_nonneg j) (And.intro hrow (And.intro rfl ?_))) | apply fin_b | rfl | refine @Exists.intro Bool _ true ?_ | refine @Exists.intro Way _ .call ?_)
      all_goals first
        | (exfalso; have := of_decide_eq_false ‹decide ((j : Int) < (keyRows l).length) = false›; omega)
        | (rw [if_pos (by simp_all)] at heq; exact heq)
        | (refine ⟨l.length - (j + 1), _, by omega, ⟨j + 1, hlt, by rw [if_neg (by simp_all)] at heq; exact heq, rfl, rfl⟩, weak_on rfl rfl rfl rfl ?_ ?_⟩
           · repeat' (first | exact True.intro | apply And.intro | (intro h; exact Bool.noConfusion h) | exact ok_op (by kernel_rfl) | exact ok_tr (by kernel_rfl) | intro _ | rfl | (apply fin_i; rw [wrap_id] <;> omega) | refine @Exists.intro Bool _ true ?_ | refine @Exists.intro Way _ .call ?_)
           · repeat' (first | exact True.intro | apply And.intro | (intro h; exact Bool.noConfusion h) | exact ok_op (by kernel_rfl) | exact ok_tr (by kernel_rfl) | intro _ | rfl | refine @Exists.intro Bool _ true ?_ | refine @Exists.intro Way _ .call ?_))
    · have hje : j = l.length := by omega
      rw [hje, List.drop_length, allK] at heq
      repeat' (first | exact True.intro | apply And.intro | (intro h; exact Bool.noConfusion h) | exact ok_op (by kernel_rfl) | exact ok_tr (by kernel_rfl) | intro _ | apply fin_b | refine @Exists.intro Bool _ true ?_ | refine @Exists.intro Way _ .call ?_)
      all_goals first
        | (exfalso; have := of_decide_eq_true ‹decide ((j : Int) < (keyRows l).length) = true›; omega)
        | exact heq

def joinK (k : Int) : List Int → Int × Bool
  | [] => (k, true)
  | x :: r => if x = 0 then joinK k r else if (k != 0 && k != x) = true then (0, false) else joinK x r
theorem c_join (l : List Int) (hl : l.length ≤ 9223372036854775807) : AFunR Tryz.prog 144 [intsA l] (fun r => r = .tup [.lf (li (joinK 0 l).1), .lf (.pv (.bool (joinK 0 l).2))]) := by
  have hlen : (keyRows l).length = l.length := List.length_map ..
  refine afun_body T_ok mixed Tryz.func144 rfl (ent_of Tryz.func144 rfl rfl) (Nat.le_of_ble_eq_true rfl) ?_
  repeat' (first | exact True.intro | apply And.intro | (intro h; exact Bool.noConfusion h) | exact ok_op (by kernel_rfl) | exact ok_tr (by kernel_rfl) | intro _ | rfl | refine @Exists.intro Bool _ true ?_ | refine @Exists.intro Way _ .call ?_)
  refine ⟨fun m st => ∃ (j : Nat) (k : Int), j ≤ l.length ∧ joinK k (l.drop j) = joinK 0 l ∧ m = l.length - j ∧ st = AS.on [(0, intsA l), (4, .i k), (5, .i j)] [] 0 32 0 (fun _ => false), ⟨l.length, _, ⟨0, 0, Nat.zero_le _, rfl, rfl, rfl⟩, ?_⟩, ?_⟩
  · refine weak_on rfl rfl rfl rfl ?_ ?_
    repeat' (first | exact True.intro | apply And.intro | (intro h; exact Bool.noConfusion h) | exact ok_op (by kernel_rfl) | exact ok_tr (by kernel_rfl) | intro _ | rfl | refine @Exists.intro Bool _ true ?_ | refine @Exists.intro Way _ .call ?_)
  · rintro m st ⟨j, k, hj, heq, rfl, rfl⟩
    by_cases hlt : j < l.length
    · obtain ⟨x, hx⟩ : ∃ x, l[j]? = some x := ⟨_, List.getElem?_eq_getElem hlt⟩
      have hrow := keyRow_get hx
      rw [drop_get hx, joinK] at heq
      generalize joinK 0 l = R at heq ⊢
      repeat' (first | exact True.intro | apply And.intro | (intro h; exact Bool.noConfusion h) | exact ok_op (by kernel_rfl) | exact ok_tr (by kernel_rfl) | intro _ | refine Exists.intro _ (And.intro (Int.natCast_nonneg j) (And.intro hrow (And.intro rfl ?_))) | refine fin_to (y := .tup [.lf (li _), .lf (.pv (.bool _))]) rfl ?_ | rfl | refine @Exists.intro Bool _ true ?_ | refine @Exists.intro Way _ .call ?_)
      all_goals first
        | (exfalso; have := of_decide_eq_false ‹decide ((j : Int) < (keyRows l).length) = false›; omega)
        | (rw [if_neg (by simp_all), if_pos (by simp_all)] at heq; rw [← heq]; exact ⟨rfl⟩)
        | (refine ⟨l.length - (j + 1), _, by omega, ⟨j + 1, k, hlt, by rw [if_pos (by simp_all)] at heq; exact heq, rfl, rfl⟩, weak_on rfl rfl rfl rfl ?_ ?_⟩
           · repeat' (first | exact True.intro | apply And.intro | (intro h; exact Bool.noConfusion h) | exact ok_op (by kernel_rfl) | exact ok_tr (by kernel_rfl) | intro _ | rfl | (apply fin_i; rw [wrap_id] <;> omega) | refine @Exists.intro Bool _ true ?_ | refine @Exists.intro Way _ .call ?_)
           · repeat' (first | exact True.intro | apply And.intro | (intro h; exact Bool.noConfusion h) | exact ok_op (by kernel_rfl) | exact ok_tr (by kernel_rfl) | intro _ | rfl | refine @Exists.intro Bool _ true ?_ | refine @Exists.intro Way _ .call ?_))
        | (refine ⟨l.length - (j + 1), _, by omega, ⟨j + 1, x, hlt, by rw [if_neg (by simp_all), if_neg (by simp_all)] at heq; exact heq, rfl, rfl⟩, weak_on rfl rfl rfl rfl ?_ ?_⟩
           · repeat' (first | exact True.intro | apply And.intro | (intro h; exact Bool.noConfusion h) | exact ok_op (by kernel_rfl) | exact ok_tr (by kernel_rfl) | intro _ | rfl | (apply fin_i; rw [wrap_id] <;> omega) | refine @Exists.intro Bool _ true ?_ | refine @Exists.intro Way _ .call ?_)
           · repeat' (first | exact True.intro | apply And.intro | (intro h; exact Bool.noConfusion h) | exact ok_op (by kernel_rfl) | exact ok_tr (by kernel_rfl) | intro _ | rfl | refine @Exists.intro Bool _ true ?_ | refine @Exists.intro Way _ .call ?_))
    · have hje : j = l.length := by omega
      rw [hje, List.drop_length, joinK] at heq
      rw [← heq]
      repeat' (first | exact True.intro | apply And.intro | (intro h; exact Bool.noConfusion h) | exact ok_op (by kernel_rfl) | exact ok_tr (by kernel_rfl) | intro _ | refine fin_to (y := .tup [.lf (li _), .lf (.pv (.bool _))]) rfl ?_ | rfl | refine @Exists.intro Bool _ true ?_ | refine @Exists.intro Way _ .call ?_)
      all_goals first
        | (exfalso; have := of_decide_eq_true ‹decide ((j : Int) < (keyRows l).length) = true›; omega)
        | exact ⟨rfl⟩
end Go.Proofs.YtijjagkeaehhbaaGreat.Eng

/- What the reference's rule for the kind of an expression computes. The function's arguments and the stated bounds are its condition. -/
set_option linter.unusedSimpArgs false
set_option linter.unusedVariables false
namespace Go.Proofs.YtijjagkeaehhbaaGreat.Eng
open Go.RowKit (Below)

def resF (op n vk : Int) (l ks : List Int) : Int × Bool :=
  if op = 1 then (vk, true) else if op = 2 then (match ks[n.toNat]? with | some k => k | none => 0, true)
  else if op = 4 ∨ op = 5 ∨ op = 6 then (3, allK 3 l) else if op = 7 ∨ op = 8 ∨ op = 9 ∨ op = 10 ∨ op = 11 ∨ op = 12 then (3, (joinK 0 l).2)
  else if op = 13 ∨ op = 14 ∨ op = 15 ∨ op = 16 ∨ op = 17 ∨ op = 18 then (1, allK 1 l) else if op = 19 then (2, allK 2 l) else if op = 20 then (1, allK 2 l)
  else if op = 21 then (3, true) else if op = 22 then ((joinK 0 (l.drop 1)).1, (joinK 0 (l.drop 1)).2 && allK 3 (l.take 1)) else if op = 23 then joinK 0 l else (3, allK 1 l)
abbrev resA (r : Int × Bool) : AV := .tup [.lf (li r.1), .lf (.pv (.bool r.2))]
theorem res_eq {r : Int × Bool} {a : Int} {b : Bool} (h : r = (a, b)) : AV.tup [.lf (li a), .lf (.pv (.bool b))] = resA r := by rw [h]
theorem c_result (op n vk vi : Int) (vt s : ByteArray) (rows : List (List PV)) (l ks : List Int) (hl : l.length ≤ 9223372036854775807) (hn : op = 2 → 0 ≤ n ∧ n < ks.length) (h22 : op = 22 → 1 ≤ l.length) :
    AFunR Tryz.prog 95 [.agg (exL op n vk vi vt s (.vs 7 rows)), intsA l, intsA ks] (fun r => r = resA (resF op n vk l ks)) := by
  have hlen : (keyRows l).length = l.length := List.length_map ..
  have ha1 := c_all l 1 hl
  have ha2 := c_all l 2 hl
  have ha3 := c_all l 3 hl
  have hj := c_join l hl
  have hjd := c_join (l.drop 1) (by rw [List.length_drop]; omega)
  have hat := c_all (l.take 1) 3 (by rw [List.length_take]; omega)
  have e1 : keyRows (l.drop 1) = ((keyRows l).take (keyRows l).length).drop 1 := by rw [List.take_length]; exact List.map_drop ..
  have e2 : keyRows (l.take 1) = ((keyRows l).take 1).drop 0 := by rw [List.drop_zero]; exact List.map_take ..
  rw [intsA, e1] at hjd
  rw [intsA, e2] at hat
  refine afun_sem T_ok Tryz.func95 rfl (ent_of Tryz.func95 rfl rfl) (Nat.le_of_ble_eq_true rfl) ?_
  refine sem_seq (fun s1 => s1 = AS.on [(1, intsA l), (2, intsA ks), (3, .lv (.ptr 0 0))] [(0, .box 31 (exL op n vk vi vt s (.vs 7 rows)))] 1 87 0 (fun _ => false)) (sem_vc T_ok mixed ?_) ?_
  · repeat' (first | exact True.intro | apply And.intro | (intro h; exact Bool.noConfusion h) | exact ok_op (by kernel_rfl) | exact ok_tr (by kernel_rfl) | intro _ | refine weak_is (weak_on rfl rfl rfl rfl ?_ ?_) rfl | rfl | refine Exists.intro _ (And.intro rfl ?_) | refine @Exists.intro Bool _ true ?_ | refine @Exists.intro Way _ .call ?_)
  rintro _ rfl
  refine sem_seq (fun s1 => resF op n vk l ks = (3, allK 1 l) ∧ s1 = AS.on [(1, intsA l)] [] 0 87 0 (fun _ => false)) ?_ ?_
  case refine_2 =>
    rintro _ ⟨hr, rfl⟩
    refine sem_vc T_ok mixed ?_
    repeat' (first | exact True.intro | apply And.intro | (intro h; exact Bool.noConfusion h) | exact ok_op (by kernel_rfl) | exact ok_tr (by kernel_rfl) | intro _ | refine callR_of_fun ha1.afun rfl ?_ | refine fin_to (y := .tup [.lf (li _), .lf (.pv (.bool _))]) rfl ?_ | rfl | refine @Exists.intro Bool _ true ?_ | refine @Exists.intro Way _ .call ?_)
    exact ⟨res_eq hr⟩
  refine sem_seq (fun s1 => s1 = AS.on [(1, intsA l), (2, intsA ks), (3, .lv (.ptr 0 0)), (13, .i op)] [(0, .box 31 (exL op n vk vi vt s (.vs 7 rows)))] 1 87 0 (fun _ => false)) (sem_vc T_ok mixed ?_) ?_
  · repeat' (first | exact True.intro | apply And.intro | (intro h; exact Bool.noConfusion h) | exact ok_op (by kernel_rfl) | exact ok_tr (by kernel_rfl) | intro _ | refine weak_is (weak_on rfl rfl rfl rfl ?_ ?_) rfl | rfl | refine Exists.intro _ (And.intro rfl ?_) | refine @Exists.intro Bool _ true ?_ | refine @Exists.intro Way _ .call ?_)
  rintro _ rfl
  refine sem_block ?_
  refine sem_seq (fun s1 => s1 = AS.on [(1, intsA l), (2, intsA ks), (3, .lv (.ptr 0 0)), (13, .i op), (14, .b (op == 1))] [(0, .box 31 (exL op n vk vi vt s (.vs 7 rows)))] 1 87 0 (fun _ => false)) (sem_vc T_ok mixed ?_) ?_
  · repeat' (first | exact True.intro | apply And.intro | (intro h; exact Bool.noConfusion h) | exact ok_op (by kernel_rfl) | exact ok_tr (by kernel_rfl) | intro _ | refine weak_is (weak_on rfl rfl rfl rfl ?_ ?_) rfl | rfl | apply fin_b | refine Exists.intro _ (And.intro rfl ?_) | refine @Exists.intro Bool _ true ?_ | refine @Exists.intro Way _ .call ?_)
    all_goals grind
  rintro _ rfl
  refine sem_cond rfl (fun h => sem_vc T_ok mixed ?_) fun h14 => ?_
  · simp only [Bool.or_eq_true, beq_iff_eq] at h
    repeat' (first | exact True.intro | apply And.intro | (intro h; exact Bool.noConfusion h) | exact ok_op (by kernel_rfl) | exact ok_tr (by kernel_rfl) | intro _ | refine fin_to (y := .tup [.lf (li _), .lf (.pv (.bool _))]) rfl ?_ | rfl | refine @Exists.intro Bool _ true ?_ | refine @Exists.intro Way _ .call ?_)
    exact ⟨res_eq (by unfold resF; grind)⟩
  simp only [Bool.or_eq_false_iff, beq_eq_false_iff_ne, ne_eq] at h14
  refine sem_seq (fun s1 => s1 = AS.on [(1, intsA l), (2, intsA ks), (3, .lv (.ptr 0 0)), (13, .i op), (19, .b (op == 2))] [(0, .box 31 (exL op n vk vi vt s (.vs 7 rows)))] 1 87 0 (fun _ => false)) (sem_vc T_ok mixed ?_) ?_
  · repeat' (first | exact True.intro | apply And.intro | (intro h; exact Bool.noConfusion h) | exact ok_op (by kernel_rfl) | exact ok_tr (by kernel_rfl) | intro _ | refine weak_is (weak_on rfl rfl rfl rfl ?_ ?_) rfl | rfl | apply fin_b | refine Exists.intro _ (And.intro rfl ?_) | refine @Exists.intro Bool _ true ?_ | refine @Exists.intro Way _ .call ?_)
    all_goals grind
  rintro _ rfl
  refine sem_cond rfl (fun h => sem_vc T_ok mixed ?_) fun h19 => ?_
  · simp only [Bool.or_eq_true, beq_iff_eq] at h
    obtain ⟨hn1, hn2⟩ := hn h
    obtain ⟨kn, hkn⟩ : ∃ k, ks[n.toNat]? = some k := ⟨_, List.getElem?_eq_getElem (by omega)⟩
    have hrow : (keyRows ks)[n.toNat]? = some [I kn] := by rw [List.getElem?_map, hkn]; rfl
    repeat' (first | exact True.intro | apply And.intro | (intro h; exact Bool.noConfusion h) | exact ok_op (by kernel_rfl) | exact ok_tr (by kernel_rfl) | intro _ | refine Exists.intro _ (And.intro hn1 (And.intro hrow (And.intro rfl ?_))) | refine fin_to (y := .tup [.lf (li _), .lf (.pv (.bool _))]) rfl ?_ | rfl | refine @Exists.intro Bool _ true ?_ | refine @Exists.intro Way _ .call ?_)
    exact ⟨res_eq (by unfold resF; rw [hkn]; grind)⟩
  simp only [Bool.or_eq_false_iff, beq_eq_false_iff_ne, ne_eq] at h19
  refine sem_seq (fun s1 => s1 = AS.on [(1, intsA l), (2, intsA ks), (3, .lv (.ptr 0 0)), (13, .i op), (26, .b (op == 4 || op == 5 || op == 6))] [(0, .box 31 (exL op n vk vi vt s (.vs 7 rows)))] 1 87 0 (fun _ => false)) (sem_vc T_ok mixed ?_) ?_
  · repeat' (first | exact True.intro | apply And.intro | (intro h; exact Bool.noConfusion h) | exact ok_op (by kernel_rfl) | exact ok_tr (by kernel_rfl) | intro _ | refine weak_is (weak_on rfl rfl rfl rfl ?_ ?_) rfl | rfl | apply fin_b | refine Exists.intro _ (And.intro rfl ?_) | refine @Exists.intro Bool _ true ?_ | refine @Exists.intro Way _ .call ?_)
    all_goals grind
  rintro _ rfl
  refine sem_cond rfl (fun h => sem_vc T_ok mixed ?_) fun h26 => ?_
  · simp only [Bool.or_eq_true, beq_iff_eq] at h
    repeat' (first | exact True.intro | apply And.intro | (intro h; exact Bool.noConfusion h) | exact ok_op (by kernel_rfl) | exact ok_tr (by kernel_rfl) | intro _ | refine callR_of_fun ha3.afun rfl ?_ | refine fin_to (y := .tup [.lf (li _), .lf (.pv (.bool _))]) rfl ?_ | rfl | refine @Exists.intro Bool _ true ?_ | refine @Exists.intro Way _ .call ?_)
    exact ⟨res_eq (by unfold resF; grind)⟩
  simp only [Bool.or_eq_false_iff, beq_eq_false_iff_ne, ne_eq] at h26
  refine sem_seq (fun s1 => s1 = AS.on [(1, intsA l), (2, intsA ks), (3, .lv (.ptr 0 0)), (13, .i op), (32, .b (op == 7 || op == 8 || op == 9 || op == 10 || op == 11 || op == 12))] [(0, .box 31 (exL op n vk vi vt s (.vs 7 rows)))] 1 87 0 (fun _ => false)) (sem_vc T_ok mixed ?_) ?_
  · repeat' (first | exact True.intro | apply And.intro | (intro h; exact Bool.noConfusion h) | exact ok_op (by kernel_rfl) | exact ok_tr (by kernel_rfl) | intro _ | refine weak_is (weak_on rfl rfl rfl rfl ?_ ?_) rfl | rfl | apply fin_b | refine Exists.intro _ (And.intro rfl ?_) | refine @Exists.intro Bool _ true ?_ | refine @Exists.intro Way _ .call ?_)
    all_goals grind
  rintro _ rfl
  refine sem_cond rfl (fun h => sem_vc T_ok mixed ?_) fun h32 => ?_
  · simp only [Bool.or_eq_true, beq_iff_eq] at h
    repeat' (first | exact True.intro | apply And.intro | (intro h; exact Bool.noConfusion h) | exact ok_op (by kernel_rfl) | exact ok_tr (by kernel_rfl) | intro _ | refine callR_of_fun hj.afun rfl ?_ | refine fin_to (y := .tup [.lf (li _), .lf (.pv (.bool _))]) rfl ?_ | rfl | refine @Exists.intro Bool _ true ?_ | refine @Exists.intro Way _ .call ?_)
    exact ⟨res_eq (by unfold resF; grind)⟩
  simp only [Bool.or_eq_false_iff, beq_eq_false_iff_ne, ne_eq] at h32
  refine sem_seq (fun s1 => s1 = AS.on [(1, intsA l), (2, intsA ks), (3, .lv (.ptr 0 0)), (13, .i op), (45, .b (op == 13 || op == 14 || op == 15 || op == 16 || op == 17 || op == 18))] [(0, .box 31 (exL op n vk vi vt s (.vs 7 rows)))] 1 87 0 (fun _ => false)) (sem_vc T_ok mixed ?_) ?_
  · repeat' (first | exact True.intro | apply And.intro | (intro h; exact Bool.noConfusion h) | exact ok_op (by kernel_rfl) | exact ok_tr (by kernel_rfl) | intro _ | refine weak_is (weak_on rfl rfl rfl rfl ?_ ?_) rfl | rfl | apply fin_b | refine Exists.intro _ (And.intro rfl ?_) | refine @Exists.intro Bool _ true ?_ | refine @Exists.intro Way _ .call ?_)
    all_goals grind
  rintro _ rfl
  refine sem_cond rfl (fun h => sem_vc T_ok mixed ?_) fun h45 => ?_
  · simp only [Bool.or_eq_true, beq_iff_eq] at h
    repeat' (first | exact True.intro | apply And.intro | (intro h; exact Bool.noConfusion h) | exact ok_op (by kernel_rfl) | exact ok_tr (by kernel_rfl) | intro _ | refine callR_of_fun ha1.afun rfl ?_ | refine fin_to (y := .tup [.lf (li _), .lf (.pv (.bool _))]) rfl ?_ | rfl | refine @Exists.intro Bool _ true ?_ | refine @Exists.intro Way _ .call ?_)
    exact ⟨res_eq (by unfold resF; grind)⟩
  simp only [Bool.or_eq_false_iff, beq_eq_false_iff_ne, ne_eq] at h45
  refine sem_seq (fun s1 => s1 = AS.on [(1, intsA l), (2, intsA ks), (3, .lv (.ptr 0 0)), (13, .i op), (54, .b (op == 19))] [(0, .box 31 (exL op n vk vi vt s (.vs 7 rows)))] 1 87 0 (fun _ => false)) (sem_vc T_ok mixed ?_) ?_
  · repeat' (first | exact True.intro | apply And.intro | (intro h; exact Bool.noConfusion h) | exact ok_op (by kernel_rfl) | exact ok_tr (by kernel_rfl) | intro _ | refine weak_is (weak_on rfl rfl rfl rfl ?_ ?_) rfl | rfl | apply fin_b | refine Exists.intro _ (And.intro rfl ?_) | refine @Exists.intro Bool _ true ?_ | refine @Exists.intro Way _ .call ?_)
    all_goals grind
  rintro _ rfl
  refine sem_cond rfl (fun h => sem_vc T_ok mixed ?_) fun h54 => ?_
  · simp only [Bool.or_eq_true, beq_iff_eq] at h
    repeat' (first | exact True.intro | apply And.intro | (intro h; exact Bool.noConfusion h) | exact ok_op (by kernel_rfl) | exact ok_tr (by kernel_rfl) | intro _ | refine callR_of_fun ha2.afun rfl ?_ | refine fin_to (y := .tup [.lf (li _), .lf (.pv (.bool _))]) rfl ?_ | rfl | refine @Exists.intro Bool _ true ?_ | refine @Exists.intro Way _ .call ?_)
    exact ⟨res_eq (by unfold resF; grind)⟩
  simp only [Bool.or_eq_false_iff, beq_eq_false_iff_ne, ne_eq] at h54
  refine sem_seq (fun s1 => s1 = AS.on [(1, intsA l), (2, intsA ks), (3, .lv (.ptr 0 0)), (13, .i op), (58, .b (op == 20))] [(0, .box 31 (exL op n vk vi vt s (.vs 7 rows)))] 1 87 0 (fun _ => false)) (sem_vc T_ok mixed ?_) ?_
  · repeat' (first | exact True.intro | apply And.intro | (intro h; exact Bool.noConfusion h) | exact ok_op (by kernel_rfl) | exact ok_tr (by kernel_rfl) | intro _ | refine weak_is (weak_on rfl rfl rfl rfl ?_ ?_) rfl | rfl | apply fin_b | refine Exists.intro _ (And.intro rfl ?_) | refine @Exists.intro Bool _ true ?_ | refine @Exists.intro Way _ .call ?_)
    all_goals grind
  rintro _ rfl
  refine sem_cond rfl (fun h => sem_vc T_ok mixed ?_) fun h58 => ?_
  · simp only [Bool.or_eq_true, beq_iff_eq] at h
    repeat' (first | exact True.intro | apply And.intro | (intro h; exact Bool.noConfusion h) | exact ok_op (by kernel_rfl) | exact ok_tr (by kernel_rfl) | intro _ | refine callR_of_fun ha2.afun rfl ?_ | refine fin_to (y := .tup [.lf (li _), .lf (.pv (.bool _))]) rfl ?_ | rfl | refine @Exists.intro Bool _ true ?_ | refine @Exists.intro Way _ .call ?_)
    exact ⟨res_eq (by unfold resF; grind)⟩
  simp only [Bool.or_eq_false_iff, beq_eq_false_iff_ne, ne_eq] at h58
  refine sem_seq (fun s1 => s1 = AS.on [(1, intsA l), (2, intsA ks), (3, .lv (.ptr 0 0)), (13, .i op), (62, .b (op == 21))] [(0, .box 31 (exL op n vk vi vt s (.vs 7 rows)))] 1 87 0 (fun _ => false)) (sem_vc T_ok mixed ?_) ?_
  · repeat' (first | exact True.intro | apply And.intro | (intro h; exact Bool.noConfusion h) | exact ok_op (by kernel_rfl) | exact ok_tr (by kernel_rfl) | intro _ | refine weak_is (weak_on rfl rfl rfl rfl ?_ ?_) rfl | rfl | apply fin_b | refine Exists.intro _ (And.intro rfl ?_) | refine @Exists.intro Bool _ true ?_ | refine @Exists.intro Way _ .call ?_)
    all_goals grind
  rintro _ rfl
  refine sem_cond rfl (fun h => sem_vc T_ok mixed ?_) fun h62 => ?_
  · simp only [Bool.or_eq_true, beq_iff_eq] at h
    repeat' (first | exact True.intro | apply And.intro | (intro h; exact Bool.noConfusion h) | exact ok_op (by kernel_rfl) | exact ok_tr (by kernel_rfl) | intro _ | refine fin_to (y := .tup [.lf (li _), .lf (.pv (.bool _))]) rfl ?_ | rfl | refine @Exists.intro Bool _ true ?_ | refine @Exists.intro Way _ .call ?_)
    exact ⟨res_eq (by unfold resF; grind)⟩
  simp only [Bool.or_eq_false_iff, beq_eq_false_iff_ne, ne_eq] at h62
  refine sem_seq (fun s1 => s1 = AS.on [(1, intsA l), (2, intsA ks), (3, .lv (.ptr 0 0)), (13, .i op), (64, .b (op == 22))] [(0, .box 31 (exL op n vk vi vt s (.vs 7 rows)))] 1 87 0 (fun _ => false)) (sem_vc T_ok mixed ?_) ?_
  · repeat' (first | exact True.intro | apply And.intro | (intro h; exact Bool.noConfusion h) | exact ok_op (by kernel_rfl) | exact ok_tr (by kernel_rfl) | intro _ | refine weak_is (weak_on rfl rfl rfl rfl ?_ ?_) rfl | rfl | apply fin_b | refine Exists.intro _ (And.intro rfl ?_) | refine @Exists.intro Bool _ true ?_ | refine @Exists.intro Way _ .call ?_)
    all_goals grind
  rintro _ rfl
  refine sem_cond rfl (fun h => sem_vc T_ok mixed ?_) fun h64 => ?_
  · simp only [Bool.or_eq_true, beq_iff_eq] at h
    have hl1 := h22 h
    repeat' (first | exact True.intro | apply And.intro | (intro h; exact Bool.noConfusion h) | exact ok_op (by kernel_rfl) | exact ok_tr (by kernel_rfl) | intro _ | refine callR_of_fun hjd.afun rfl ?_ | refine callR_of_fun hat.afun rfl ?_ | refine Exists.intro _ (And.intro (pure_slice (l := 1) (h := (keyRows l).length) rfl Tryz.underlying23 (by kernel_rfl) (by kernel_rfl) (Exists.intro _ rfl) rfl (by omega) (Nat.le_refl _)) ?_) | refine Exists.intro _ (And.intro (pure_slice (l := 0) (h := 1) rfl Tryz.underlying23 (by kernel_rfl) (by kernel_rfl) rfl (Exists.intro _ rfl) (Nat.zero_le _) (by omega)) ?_) | refine fin_to (y := .tup [.lf (li _), .lf (.pv (.bool _))]) rfl ?_ | rfl | refine @Exists.intro Bool _ true ?_ | refine @Exists.intro Way _ .call ?_)
    all_goals exact ⟨res_eq (by unfold resF; grind)⟩
  simp only [Bool.or_eq_false_iff, beq_eq_false_iff_ne, ne_eq] at h64
  refine sem_seq (fun s1 => s1 = AS.on [(1, intsA l), (2, intsA ks), (3, .lv (.ptr 0 0)), (13, .i op), (79, .b (op == 23))] [(0, .box 31 (exL op n vk vi vt s (.vs 7 rows)))] 1 87 0 (fun _ => false)) (sem_vc T_ok mixed ?_) ?_
  · repeat' (first | exact True.intro | apply And.intro | (intro h; exact Bool.noConfusion h) | exact ok_op (by kernel_rfl) | exact ok_tr (by kernel_rfl) | intro _ | refine weak_is (weak_on rfl rfl rfl rfl ?_ ?_) rfl | rfl | apply fin_b | refine Exists.intro _ (And.intro rfl ?_) | refine @Exists.intro Bool _ true ?_ | refine @Exists.intro Way _ .call ?_)
    all_goals grind
  rintro _ rfl
  refine sem_cond rfl (fun h => sem_vc T_ok mixed ?_) fun h79 => ?_
  · simp only [Bool.or_eq_true, beq_iff_eq] at h
    repeat' (first | exact True.intro | apply And.intro | (intro h; exact Bool.noConfusion h) | exact ok_op (by kernel_rfl) | exact ok_tr (by kernel_rfl) | intro _ | refine callR_of_fun hj.afun rfl ?_ | refine fin_to (y := .tup [.lf (li _), .lf (.pv (.bool _))]) rfl ?_ | rfl | refine @Exists.intro Bool _ true ?_ | refine @Exists.intro Way _ .call ?_)
    exact ⟨res_eq (by unfold resF; grind)⟩
  simp only [Bool.or_eq_false_iff, beq_eq_false_iff_ne, ne_eq] at h79
  refine sem_vc T_ok mixed ?_
  repeat' (first | exact True.intro | apply And.intro | (intro h; exact Bool.noConfusion h) | exact ok_op (by kernel_rfl) | exact ok_tr (by kernel_rfl) | intro _ | refine weak_is (weak_on rfl rfl rfl rfl ?_ ?_) ⟨by unfold resF; grind, rfl⟩ | rfl | refine @Exists.intro Bool _ true ?_ | refine @Exists.intro Way _ .call ?_)
end Go.Proofs.YtijjagkeaehhbaaGreat.Eng

/- The reference's conjuncts and conditions of an expression. Each function's arguments and the stated bounds are its condition. -/
set_option linter.unusedSimpArgs false
set_option linter.unusedVariables false
namespace Go.Proofs.YtijjagkeaehhbaaGreat.Eng
open Go.RowKit (Below)

mutual
def conjE : Ex → List Ex
  | .mk op n vk vi vt s args => bif op == 5 && formedB op n vk vi vt s args.length then conjL args else [.mk op n vk vi vt s args]
def conjL : List Ex → List Ex
  | [] => []
  | e :: r => conjE e ++ conjL r
end
theorem conjL_take : ∀ (l : List Ex) (j : Nat) (e : Ex), l[j]? = some e → conjL (l.take (j + 1)) = conjL (l.take j) ++ conjE e
  | [], j, e, h => by simp at h
  | x :: r, 0, e, h => by simp only [List.getElem?_cons_zero, Option.some.injEq] at h; subst h; simp [conjL]
  | x :: r, j + 1, e, h => by
    rw [List.take_succ_cons, conjL, conjL_take r j e (by simpa using h), List.take_succ_cons, conjL, List.append_assoc]
theorem conjL_le : ∀ (l : List Ex) (j : Nat), (conjL (l.take j)).length ≤ (conjL l).length
  | [], j => by simp [conjL]
  | x :: r, 0 => by simp [conjL]
  | x :: r, j + 1 => by rw [List.take_succ_cons, conjL, conjL, List.length_append, List.length_append]; have := conjL_le r j; omega
theorem exRows_append : ∀ a b : List Ex, exRows (a ++ b) = exRows a ++ exRows b
  | [], b => rfl
  | e :: a, b => by rw [List.cons_append, exRows, exRows, exRows_append a b, List.cons_append]

def condsL : List Ex → List (List PV)
  | [] => []
  | e :: r => condsE e ++ condsL r
theorem condsL_append : ∀ a b : List Ex, condsL (a ++ b) = condsL a ++ condsL b
  | [], b => rfl
  | e :: a, b => by rw [List.cons_append, condsL, condsL, condsL_append a b, List.append_assoc]
theorem condsL_le : ∀ l : List Ex, (condsL l).length ≤ l.length
  | [] => Nat.le_refl _
  | e :: r => by rw [condsL, List.length_append, List.length_cons]; have h1 := condsL_le r; have h2 := condsE_le e; omega
theorem condsL_take : ∀ (l : List Ex) (j : Nat) (e : Ex), l[j]? = some e → condsL (l.take (j + 1)) = condsL (l.take j) ++ condsE e := by
  intro l j e h
  rw [List.take_add_one, h, condsL_append]
  simp [condsL]

/-! the reference's conditions are the program's -/
mutual
def Ex.slim : Ex → Prop
  | .mk _ _ _ _ _ _ args => args.length ≤ 1099511627776 ∧ slimL args
def slimL : List Ex → Prop
  | [] => True
  | e :: r => e.slim ∧ slimL r
end
theorem andB_formed (op n vk vi : Int) (vt s : ByteArray) (len : Nat) (h : len ≤ 1099511627776) : (op == 5 && formedB op n vk vi vt s len) = andB op n vk vi vt s len := by
  unfold andB
  by_cases h5 : op = 5
  · subst h5
    unfold formedB zeroVB emptyB
    have e1 : arLow 5 = 2 := by unfold arLow; decide
    have e2 : arHigh 5 = 1099511627776 := by unfold arHigh; decide
    rw [e1, e2]
    grind
  · have : (op == 5) = false := by rw [beq_eq_false_iff_ne]; exact h5
    rw [this]
    rfl
mutual
theorem conds_leaves : ∀ e : Ex, e.slim → condsL (conjE e) = leaves e
  | .mk op n vk vi vt s args, h => by
    rw [conjE, leaves, andB_formed _ _ _ _ _ _ _ h.1]
    cases andB op n vk vi vt s args.length with
    | true => exact conds_leavesL args h.2
    | false => simp [condsL]
theorem conds_leavesL : ∀ l : List Ex, slimL l → condsL (conjL l) = leavesL l
  | [], _ => rfl
  | e :: r, h => by rw [conjL, condsL_append, leavesL, conds_leaves e h.1, conds_leavesL r h.2]
end
end Go.Proofs.YtijjagkeaehhbaaGreat.Eng

/- What the reference's depth and check of an expression compute. Each function's arguments and the stated bounds are its condition. -/
set_option linter.unusedSimpArgs false
set_option linter.unusedVariables false
namespace Go.Proofs.YtijjagkeaehhbaaGreat.Eng
open Go.RowKit (Below)

def maxI (a b : Int) : Int := if a < b then b else a
mutual
def depE : Ex → Int
  | .mk op n vk vi vt s args => IntKind.i64.wrap (depL 0 args + 1)
def depL (k : Int) : List Ex → Int
  | [] => k
  | e :: r => depL (maxI k (depE e)) r
end
theorem c_depth : ∀ (N : Nat) (e : Ex), e.fits → SizeOf.sizeOf e < N → AFunR Tryz.prog 47 [.agg (pvs e.row)] (fun r => r = .i (depE e))
  | 0, e, _, hN => absurd hN (Nat.not_lt_zero _)
  | N + 1, .mk op n vk vi vt s args, hfit, hN => by
    have hwide := hfit.1
    have hlen := exRows_length args
    refine afun_body T_ok mixed Tryz.func47 rfl (ent_of Tryz.func47 rfl rfl) (Nat.le_of_ble_eq_true rfl) ?_
    repeat' (first | exact True.intro | apply And.intro | (intro h; exact Bool.noConfusion h) | exact ok_op (by kernel_rfl) | exact ok_tr (by kernel_rfl) | intro _ | rfl | refine @Exists.intro Bool _ true ?_ | refine @Exists.intro Way _ .call ?_)
    refine ⟨fun m st => ∃ (j : Nat) (k : Int), j ≤ args.length ∧ depL k (args.drop j) = depL 0 args ∧ m = args.length - j ∧ st = AS.on [(1, .lv (.ptr 0 0)), (3, .i k), (4, .i j)] [(0, .box 31 (exL op n vk vi vt s (.vs 7 (exRows args))))] 1 22 0 (fun _ => false), ⟨args.length, _, ⟨0, 0, Nat.zero_le _, rfl, rfl, rfl⟩, ?_⟩, ?_⟩
    · refine weak_on rfl rfl rfl rfl ?_ ?_
      · repeat' (first | exact True.intro | apply And.intro | (intro h; exact Bool.noConfusion h) | exact ok_op (by kernel_rfl) | exact ok_tr (by kernel_rfl) | intro _ | rfl | refine @Exists.intro Bool _ true ?_ | refine @Exists.intro Way _ .call ?_)
      · repeat' (first | exact True.intro | apply And.intro | (intro h; exact Bool.noConfusion h) | exact ok_op (by kernel_rfl) | exact ok_tr (by kernel_rfl) | intro _ | rfl | refine Exists.intro _ (And.intro rfl ?_) | refine @Exists.intro Bool _ true ?_ | refine @Exists.intro Way _ .call ?_)
    · rintro m st ⟨j, k, hj, heq, rfl, rfl⟩
      by_cases hlt : j < args.length
      · obtain ⟨x, hx⟩ : ∃ x, args[j]? = some x := ⟨_, List.getElem?_eq_getElem hlt⟩
        have hrow := exRows_get args j x hx
        have hrow' : (exRows args)[((j : Nat) : Int).toNat]? = some x.row := hrow
        have hsz : SizeOf.sizeOf x < N := by
          have h1 := List.sizeOf_lt_of_mem (List.mem_of_getElem? hx)
          simp only [Ex.mk.sizeOf_spec] at hN
          omega
        have ih := c_depth N x (fitsL_get args j x hfit.2 hx) hsz
        rw [drop_get hx, depL] at heq
        generalize depE x = d at ih heq
        obtain ⟨xo, xn, xk, xi, xt, xs, xa⟩ := x
        repeat' (first | exact True.intro | apply And.intro | (intro h; exact Bool.noConfusion h) | exact ok_op (by kernel_rfl) | exact ok_tr (by kernel_rfl) | intro _ | refine Exists.intro _ (And.intro (Int.natCast_nonneg j) (And.intro hrow' (And.intro rfl ?_))) | refine callR_of_fun ih.afun rfl ?_ | rfl | refine @Exists.intro Bool _ true ?_ | refine @Exists.intro Way _ .call ?_)
        all_goals first
          | (exfalso; have := of_decide_eq_false ‹decide ((j : Int) < (exRows args).length) = false›; omega)
          | skip
        refine ⟨args.length - (j + 1), _, by omega, ⟨j + 1, _, hlt, heq, rfl, rfl⟩, weak_on rfl rfl rfl rfl ?_ ?_⟩
        · repeat' (first | exact True.intro | apply And.intro | (intro h; exact Bool.noConfusion h) | exact ok_op (by kernel_rfl) | exact ok_tr (by kernel_rfl) | intro _ | rfl | (apply fin_i; rw [wrap_id] <;> omega) | refine @Exists.intro Bool _ true ?_ | refine @Exists.intro Way _ .call ?_)
        · repeat' (first | exact True.intro | apply And.intro | (intro h; exact Bool.noConfusion h) | exact ok_op (by kernel_rfl) | exact ok_tr (by kernel_rfl) | intro _ | rfl | refine Exists.intro _ (And.intro rfl ?_) | refine @Exists.intro Bool _ true ?_ | refine @Exists.intro Way _ .call ?_)
      · have hje : j = args.length := by omega
        rw [hje, List.drop_length, depL] at heq
        rw [depE, ← heq]
        repeat' (first | exact True.intro | apply And.intro | (intro h; exact Bool.noConfusion h) | exact ok_op (by kernel_rfl) | exact ok_tr (by kernel_rfl) | intro _ | apply fin_i | rfl | refine @Exists.intro Bool _ true ?_ | refine @Exists.intro Way _ .call ?_)
        all_goals first
          | (exfalso; have := of_decide_eq_true ‹decide ((j : Int) < (exRows args).length) = true›; omega)
          | rfl

mutual
/-- The kind of an expression, or the error. -/
def chkE (ks : List Int) : Ex → Int × Int
  | .mk op n vk vi vt s args =>
    if arLow op < 0 then (0, 7) else if formedB op n vk vi vt s args.length = false then (0, 8)
    else if op = 2 ∧ (n < 0 ∨ n ≥ ks.length) then (0, 13)
    else match chkL ks args with
      | .ok l => if (resF op n vk l ks).2 = true then ((resF op n vk l ks).1, 0) else (0, 7)
      | .error f => (0, f)
def chkL (ks : List Int) : List Ex → Except Int (List Int)
  | [] => .ok []
  | e :: r => if (chkE ks e).2 ≠ 0 then .error (chkE ks e).2 else match chkL ks r with
    | .ok l => .ok ((chkE ks e).1 :: l)
    | .error f => .error f
end
def accK (acc : List Int) : Except Int (List Int) → Except Int (List Int)
  | .ok l => .ok (acc ++ l)
  | .error f => .error f
abbrev pairA (r : Int × Int) : AV := .tup [.lf (li r.1), .lf (li r.2)]
theorem pair_eq {r : Int × Int} {a b : Int} (h : r = (a, b)) : AV.tup [.lf (li a), .lf (li b)] = pairA r := by rw [h]
theorem chkL_len (ks : List Int) : ∀ (l : List Ex) (r : List Int), chkL ks l = .ok r → r.length = l.length
  | [], r, h => by rw [chkL] at h; cases h; rfl
  | e :: l, r, h => by
    rw [chkL] at h
    split at h
    · cases h
    · split at h
      · rename_i l' hl
        cases h
        rw [List.length_cons, List.length_cons, chkL_len ks l l' hl]
      · cases h
theorem slimL_get : ∀ (l : List Ex) (j : Nat) (e : Ex), slimL l → l[j]? = some e → e.slim
  | [], j, e, _, h => by simp at h
  | x :: r, 0, e, hf, h => by simp only [List.getElem?_cons_zero, Option.some.injEq] at h; subst h; exact hf.1
  | x :: r, j + 1, e, hf, h => slimL_get r j e hf.2 (by simpa using h)
set_option maxHeartbeats 1000000 in
theorem c_check (ks : List Int) (hks : ks.length ≤ 9223372036854775807) : ∀ (N : Nat) (e : Ex), e.slim → SizeOf.sizeOf e < N → AFunR Tryz.prog 48 [.agg (pvs e.row), intsA ks] (fun r => r = pairA (chkE ks e))
  | 0, e, _, hN => absurd hN (Nat.not_lt_zero _)
  | N + 1, .mk op n vk vi vt s args, hfit, hN => by
    have hwide := hfit.1
    have hlen := exRows_length args
    have hkl : (keyRows ks).length = ks.length := List.length_map ..
    have har := c_arity op
    have hfm := c_formed op n vk vi vt s (exRows args)
    rw [hlen] at hfm
    have h22 : formedB op n vk vi vt s args.length = true → op = 22 → 1 ≤ args.length := by
      intro h h'
      subst h'
      unfold formedB at h
      have e1 : arLow 22 = 3 := by unfold arLow; decide
      rw [e1] at h
      grind
    have hdef : chkE ks (.mk op n vk vi vt s args) = (if arLow op < 0 then (0, 7) else if formedB op n vk vi vt s args.length = false then (0, 8)
      else if op = 2 ∧ (n < 0 ∨ n ≥ ks.length) then (0, 13) else match chkL ks args with
        | .ok l => if (resF op n vk l ks).2 = true then ((resF op n vk l ks).1, 0) else (0, 7)
        | .error f => (0, f)) := by rw [chkE]
    generalize chkE ks (.mk op n vk vi vt s args) = R at hdef ⊢
    generalize formedB op n vk vi vt s args.length = fm at hfm h22 hdef
    generalize arLow op = lo at har hdef
    generalize arHigh op = hi at har
    refine afun_sem T_ok Tryz.func48 rfl (ent_of Tryz.func48 rfl rfl) (Nat.le_of_ble_eq_true rfl) ?_
    refine sem_join T_ok mixed (fun s1 => s1 = AS.on [(1, intsA ks), (2, .lv (.ptr 0 0)), (4, .i 0), (5, .i 0), (6, .i lo)] [(0, .box 31 (exL op n vk vi vt s (.vs 7 (exRows args))))] 1 75 0 (fun _ => false)) ?_ ?_
    · repeat' (first | exact True.intro | apply And.intro | (intro h; exact Bool.noConfusion h) | exact ok_op (by kernel_rfl) | exact ok_tr (by kernel_rfl) | intro _ | refine callR_of_fun har.afun rfl ?_ | refine weak_is (weak_on rfl rfl rfl rfl ?_ ?_) rfl | rfl | refine Exists.intro _ (And.intro rfl ?_) | refine @Exists.intro Bool _ true ?_ | refine @Exists.intro Way _ .call ?_)
    rintro _ rfl
    refine sem_seq (fun s1 => ¬ lo < 0 ∧ s1 = AS.on [(1, intsA ks), (2, .lv (.ptr 0 0)), (4, .i 0), (5, .i 0)] [(0, .box 31 (exL op n vk vi vt s (.vs 7 (exRows args))))] 1 75 0 (fun _ => false)) (sem_vc T_ok mixed ?_) ?_
    · repeat' (first | exact True.intro | apply And.intro | (intro h; exact Bool.noConfusion h) | exact ok_op (by kernel_rfl) | exact ok_tr (by kernel_rfl) | intro _ | refine weak_is (weak_on rfl rfl rfl rfl ?_ ?_) ⟨of_decide_eq_false (by assumption), rfl⟩ | refine fin_to (y := .tup [.lf (li _), .lf (li _)]) rfl ?_ | rfl | refine Exists.intro _ (And.intro rfl ?_) | refine @Exists.intro Bool _ true ?_ | refine @Exists.intro Way _ .call ?_)
      exact ⟨pair_eq (by rw [hdef, if_pos (of_decide_eq_true (by assumption))])⟩
    rintro _ ⟨hlo, rfl⟩
    rw [if_neg hlo] at hdef
    refine sem_seq (fun s1 => fm = true ∧ s1 = AS.on [(1, intsA ks), (2, .lv (.ptr 0 0)), (4, .i 0), (5, .i 0)] [(0, .box 31 (exL op n vk vi vt s (.vs 7 (exRows args))))] 1 75 0 (fun _ => false)) (sem_vc T_ok mixed ?_) ?_
    · repeat' (first | exact True.intro | apply And.intro | (intro h; exact Bool.noConfusion h) | exact ok_op (by kernel_rfl) | exact ok_tr (by kernel_rfl) | intro _ | refine callR_of_fun hfm.afun rfl ?_ | refine weak_is (weak_on rfl rfl rfl rfl ?_ ?_) ⟨?_, rfl⟩ | refine fin_to (y := .tup [.lf (li _), .lf (li _)]) rfl ?_ | rfl | refine Exists.intro _ (And.intro rfl ?_) | refine @Exists.intro Bool _ true ?_ | refine @Exists.intro Way _ .call ?_)
      all_goals (cases fm with
        | true => first
          | rfl
          | exact absurd ‹(!true) = true› (by decide)
        | false => first
          | exact ⟨pair_eq (by rw [hdef]; rfl)⟩
          | exact absurd ‹(!false) = false› (by decide))
    rintro _ ⟨hfm1, rfl⟩
    rw [if_neg (by simp [hfm1])] at hdef
    refine sem_seq (fun s1 => ¬ (op = 2 ∧ (n < 0 ∨ n ≥ ks.length)) ∧ s1 = AS.on [(1, intsA ks), (2, .lv (.ptr 0 0)), (4, .i 0), (5, .i 0)] [(0, .box 31 (exL op n vk vi vt s (.vs 7 (exRows args))))] 1 75 0 (fun _ => false)) (sem_vc T_ok mixed ?_) ?_
    · repeat' (first | exact True.intro | apply And.intro | (intro h; exact Bool.noConfusion h) | exact ok_op (by kernel_rfl) | exact ok_tr (by kernel_rfl) | intro _ | refine weak_is (weak_on rfl rfl rfl rfl ?_ ?_) ⟨?_, rfl⟩ | refine fin_to (y := .tup [.lf (li _), .lf (li _)]) rfl ?_ | rfl | refine Exists.intro _ (And.intro rfl ?_) | refine @Exists.intro Bool _ true ?_ | refine @Exists.intro Way _ .call ?_)
      all_goals first
        | exact ⟨pair_eq (by rw [hdef, if_pos ⟨eq_of_beq ‹(op == 2) = true›, Or.inl (of_decide_eq_true ‹decide (n < 0) = !false›)⟩])⟩
        | exact ⟨pair_eq (by rw [hdef, if_pos ⟨eq_of_beq ‹(op == 2) = true›, Or.inr (by have := of_decide_eq_true ‹decide (n ≥ ((keyRows ks).length : Int)) = true›; rw [hkl] at this; exact this)⟩])⟩
        | (have h1 := of_decide_eq_false ‹decide (n < 0) = false›
           have h2 := of_decide_eq_false ‹decide (n ≥ ((keyRows ks).length : Int)) = false›
           omega)
        | (have h1 := ‹(op == 2) = !true›
           rw [Bool.not_true, beq_eq_false_iff_ne] at h1
           omega)
    rintro _ ⟨hcol, rfl⟩
    rw [if_neg hcol] at hdef
    refine sem_seq (fun s1 => s1 = AS.on [(1, intsA ks), (2, .lv (.ptr 0 0)), (4, .i 0), (5, .i 0), (8, .lv (.sl 1))] [(0, .box 31 (exL op n vk vi vt s (.vs 7 (exRows args)))), (1, .row 3 1 [])] 2 75 0 (fun _ => false)) (sem_vc T_ok mixed ?_) ?_
    · repeat' (first | exact True.intro | apply And.intro | (intro h; exact Bool.noConfusion h) | exact ok_op (by kernel_rfl) | exact ok_tr (by kernel_rfl) | intro _ | refine weak_is (weak_on rfl rfl rfl rfl ?_ ?_) rfl | rfl | refine Exists.intro _ (And.intro rfl ?_) | refine @Exists.intro Bool _ true ?_ | refine @Exists.intro Way _ .call ?_)
    rintro _ rfl
    refine sem_seq (fun s1 => ∃ l, chkL ks args = .ok l ∧ s1 = AS.on [(1, intsA ks), (2, .lv (.ptr 0 0)), (4, .i 0), (5, .i 0), (8, .pv (.vs 1 (keyRows l)))] [(0, .box 31 (exL op n vk vi vt s (.vs 7 (exRows args))))] 2 75 0 (fun _ => false)) (sem_vc T_ok mixed ?_) ?_
    · repeat' (first | exact True.intro | apply And.intro | (intro h; exact Bool.noConfusion h) | exact ok_op (by kernel_rfl) | exact ok_tr (by kernel_rfl) | intro _ | rfl | refine @Exists.intro Bool _ true ?_ | refine @Exists.intro Way _ .call ?_)
      refine ⟨fun m st => ∃ (j : Nat) (acc : List Int) (out : List (List PV)), j ≤ args.length ∧ acc.length = j ∧ out = keyRows acc ∧ accK acc (chkL ks (args.drop j)) = chkL ks args ∧ m = args.length - j ∧ st = AS.on [(1, intsA ks), (2, .lv (.ptr 0 0)), (4, .i 0), (5, .i 0), (8, .lv (.sl 1)), (9, .i j)] [(0, .box 31 (exL op n vk vi vt s (.vs 7 (exRows args)))), (1, .row 3 1 out)] 2 75 0 (fun _ => false), ⟨args.length, _, ⟨0, [], [], Nat.zero_le _, rfl, rfl, by rw [List.drop_zero]; cases chkL ks args <;> rfl, rfl, rfl⟩, ?_⟩, ?_⟩
      · refine weak_on rfl rfl rfl rfl ?_ ?_
        · repeat' (first | exact True.intro | apply And.intro | (intro h; exact Bool.noConfusion h) | exact ok_op (by kernel_rfl) | exact ok_tr (by kernel_rfl) | intro _ | rfl | refine @Exists.intro Bool _ true ?_ | refine @Exists.intro Way _ .call ?_)
        · repeat' (first | exact True.intro | apply And.intro | (intro h; exact Bool.noConfusion h) | exact ok_op (by kernel_rfl) | exact ok_tr (by kernel_rfl) | intro _ | rfl | refine Exists.intro _ (And.intro rfl ?_) | refine @Exists.intro Bool _ true ?_ | refine @Exists.intro Way _ .call ?_)
      · rintro m st ⟨j, acc, out, hj, hal, hout, heq, rfl, rfl⟩
        have hkal : out.length = acc.length := by rw [hout]; exact List.length_map ..
        by_cases hlt : j < args.length
        · obtain ⟨x, hx⟩ : ∃ x, args[j]? = some x := ⟨_, List.getElem?_eq_getElem hlt⟩
          have hrow := exRows_get args j x hx
          have hrow' : (exRows args)[((j : Nat) : Int).toNat]? = some x.row := hrow
          have hsz : SizeOf.sizeOf x < N := by
            have h1 := List.sizeOf_lt_of_mem (List.mem_of_getElem? hx)
            simp only [Ex.mk.sizeOf_spec] at hN
            omega
          have ih := c_check ks hks N x (slimL_get args j x hfit.2 hx) hsz
          rw [drop_get hx, chkL] at heq
          generalize chkE ks x = d at ih heq
          obtain ⟨dk, df⟩ := d
          have hnext : out ++ [[I dk]] = keyRows (acc ++ [dk]) := by rw [hout]; simp
          obtain ⟨xo, xn, xk, xi, xt, xs, xa⟩ := x
          repeat' (first | exact True.intro | apply And.intro | (intro h; exact Bool.noConfusion h) | exact ok_op (by kernel_rfl) | exact ok_tr (by kernel_rfl) | intro _ | refine Exists.intro _ (And.intro (Int.natCast_nonneg j) (And.intro hrow' (And.intro rfl ?_))) | refine callR_of_fun ih.afun rfl ?_ | refine @Exists.intro Bool _ false ?_ | refine fin_to (y := .tup [.lf (li _), .lf (li _)]) rfl ?_ | rfl | (simp only [chunk, List.length_cons, List.length_nil, ti3]; omega) | refine @Exists.intro Bool _ true ?_ | refine @Exists.intro Way _ .call ?_)
          all_goals first
            | (exfalso; have := of_decide_eq_false ‹decide ((j : Int) < (exRows args).length) = false›; omega)
            | (rw [if_pos (bne_iff_ne.1 ‹((dk, df).snd != 0) = true›)] at heq; exact ⟨pair_eq (by rw [hdef, ← heq]; rfl)⟩)
            | skip
          have hz : ¬ (dk, df).snd ≠ 0 := by
            have := ‹((dk, df).snd != 0) = false›
            rw [bne_eq_false_iff_eq] at this
            exact fun h => h this
          rw [if_neg hz] at heq
          refine ⟨args.length - (j + 1), _, by omega, ⟨j + 1, acc ++ [dk], _, hlt, by simp [hal], hnext, ?_, rfl, rfl⟩, ?_⟩
          · rw [← heq]
            cases chkL ks (args.drop (j + 1)) <;> simp [accK]
          · refine weak_on rfl rfl rfl rfl ?_ ?_
            · repeat' (first | exact True.intro | apply And.intro | (intro h; exact Bool.noConfusion h) | exact ok_op (by kernel_rfl) | exact ok_tr (by kernel_rfl) | intro _ | rfl | (apply fin_i; rw [wrap_id] <;> omega) | refine @Exists.intro Bool _ true ?_ | refine @Exists.intro Way _ .call ?_)
            · repeat' (first | exact True.intro | apply And.intro | (intro h; exact Bool.noConfusion h) | exact ok_op (by kernel_rfl) | exact ok_tr (by kernel_rfl) | intro _ | rfl | refine Exists.intro _ (And.intro rfl ?_) | refine @Exists.intro Bool _ true ?_ | refine @Exists.intro Way _ .call ?_)
        · have hje : j = args.length := by omega
          rw [hje, List.drop_length, chkL, accK, List.append_nil] at heq
          subst hout
          repeat' (first | exact True.intro | apply And.intro | (intro h; exact Bool.noConfusion h) | exact ok_op (by kernel_rfl) | exact ok_tr (by kernel_rfl) | intro _ | rfl | refine @Exists.intro Bool _ true ?_ | refine @Exists.intro Way _ .call ?_)
          all_goals first
            | (exfalso; have := of_decide_eq_true ‹decide ((j : Int) < (exRows args).length) = true›; omega)
            | refine weak_is ((weak_frz (d := 8) (id := 1) (t := 3) (sz := 1) (rows := keyRows acc) rfl rfl).trans (weak_on rfl rfl rfl rfl ?_ ?_)) ⟨acc, heq.symm, rfl⟩
          · repeat' (first | exact True.intro | apply And.intro | (intro h; exact Bool.noConfusion h) | exact ok_op (by kernel_rfl) | exact ok_tr (by kernel_rfl) | intro _ | rfl | refine @Exists.intro Bool _ true ?_ | refine @Exists.intro Way _ .call ?_)
          · repeat' (first | exact True.intro | apply And.intro | (intro h; exact Bool.noConfusion h) | exact ok_op (by kernel_rfl) | exact ok_tr (by kernel_rfl) | intro _ | rfl | refine Exists.intro _ (And.intro rfl ?_) | refine @Exists.intro Bool _ true ?_ | refine @Exists.intro Way _ .call ?_)
    rintro _ ⟨l, hl, rfl⟩
    have hll := chkL_len ks args l hl
    rw [hl] at hdef
    replace hdef : R = (if (resF op n vk l ks).2 = true then ((resF op n vk l ks).1, 0) else (0, 7)) := hdef
    have hres := c_result op n vk vi vt s (exRows args) l ks (by omega) (by intro h; omega) (by intro h; have := h22 hfm1 h; omega)
    generalize resF op n vk l ks = rr at hres hdef
    obtain ⟨rk, rb⟩ := rr
    refine sem_vc T_ok mixed ?_
    repeat' (first | exact True.intro | apply And.intro | (intro h; exact Bool.noConfusion h) | exact ok_op (by kernel_rfl) | exact ok_tr (by kernel_rfl) | intro _ | refine callR_of_fun hres.afun rfl ?_ | refine fin_to (y := .tup [.lf (li _), .lf (li _)]) rfl ?_ | rfl | refine @Exists.intro Bool _ true ?_ | refine @Exists.intro Way _ .call ?_)
    all_goals (refine ⟨pair_eq ?_⟩; rw [hdef])
    all_goals (cases rb with
      | true => first
        | rfl
        | exact absurd ‹(!true) = true› (by decide)
      | false => first
        | rfl
        | exact absurd ‹(!false) = false› (by decide))
end Go.Proofs.YtijjagkeaehhbaaGreat.Eng

/- That the reference's check of a table returns some number. Each function's arguments and the stated bounds are its condition. -/
set_option linter.unusedSimpArgs false
set_option linter.unusedVariables false
namespace Go.Proofs.YtijjagkeaehhbaaGreat.Eng
open Go.RowKit (Below)

mutual
theorem slim_fits : ∀ e : Ex, e.slim → e.fits
  | .mk _ _ _ _ _ _ args, h => ⟨Nat.le_trans h.1 (by decide), slimL_fits args h.2⟩
theorem slimL_fits : ∀ l : List Ex, slimL l → fitsL l
  | [], _ => trivial
  | e :: r, h => ⟨slim_fits e h.1, slimL_fits r h.2⟩
end
def chk11 (ks : List Int) (e : Ex) : Int × Int := if depE e > 24 then (0, 26) else chkE ks e
theorem c_check11 (ks : List Int) (e : Ex) (hks : ks.length ≤ 9223372036854775807) (hs : e.slim) : AFunR Tryz.prog 19 [.agg (pvs e.row), intsA ks] (fun r => r = pairA (chk11 ks e)) := by
  have hd := c_depth (SizeOf.sizeOf e + 1) e (slim_fits e hs) (Nat.lt_succ_self _)
  have hc := c_check ks hks (SizeOf.sizeOf e + 1) e hs (Nat.lt_succ_self _)
  unfold chk11
  generalize depE e = d at hd ⊢
  generalize chkE ks e = c at hc ⊢
  obtain ⟨op, n, vk, vi, vt, s, args⟩ := e
  refine afun_body T_ok mixed Tryz.func19 rfl (ent_of Tryz.func19 rfl rfl) (Nat.le_of_ble_eq_true rfl) ?_
  repeat' (first | exact True.intro | apply And.intro | (intro h; exact Bool.noConfusion h) | exact ok_op (by kernel_rfl) | exact ok_tr (by kernel_rfl) | intro _ | refine callR_of_fun hd.afun rfl ?_ | refine callR_of_fun hc.afun rfl ?_ | refine fin_to (y := .tup [.lf (li _), .lf (li _)]) rfl ?_ | rfl | refine @Exists.intro Bool _ true ?_ | refine @Exists.intro Way _ .call ?_)
  · exact ⟨pair_eq (by rw [if_pos (of_decide_eq_true (by assumption))])⟩
  · exact ⟨pair_eq (by rw [if_neg (of_decide_eq_false (by assumption))])⟩

def someI : AV → Prop := fun r => ∃ n, r = .i n
def someB : AV → Prop := fun r => ∃ b, r = .b b
def isStr : List PV → Bool
  | [.str _] => true
  | _ => false
theorem isStr_get {rows : List (List PV)} (h : rows.all isStr = true) {j : Nat} (hj : j < rows.length) : ∃ w, rows[((j : Nat) : Int).toNat]? = some [.str w] := by
  have h1 := List.all_eq_true.1 h rows[j] (List.getElem_mem hj)
  have h2 : rows[((j : Nat) : Int).toNat]? = some rows[j] := List.getElem?_eq_getElem hj
  rw [h2]
  unfold isStr at h1
  split at h1
  · rename_i w hw; exact ⟨w, by rw [hw]⟩
  · cases h1
set_option maxRecDepth 20000 in
theorem c_words : AFunR Tryz.prog 97 [] (fun r => ∃ rows, r = .pv (.vs 1 rows) ∧ rows.all isStr = true ∧ Nat.ble rows.length 1000 = true) := by
  refine afun_body T_ok mixed Tryz.func97 rfl (ent_of Tryz.func97 rfl rfl) (Nat.le_of_ble_eq_true rfl) ?_
  repeat' (first | exact True.intro | apply And.intro | (intro h; exact Bool.noConfusion h) | exact ok_op (by kernel_rfl) | exact ok_tr (by kernel_rfl) | intro _ | exact ⟨_, rfl, rfl, rfl⟩ | refine @Exists.intro Bool _ true ?_ | refine @Exists.intro Way _ .call ?_)
theorem c_in (rows : List (List PV)) (s : ByteArray) (hr : rows.all isStr = true) (hl : rows.length ≤ 1000) : AFunR Tryz.prog 96 [.pv (.vs 1 rows), .pv (.str s)] someB := by
  refine afun_body T_ok mixed Tryz.func96 rfl (ent_of Tryz.func96 rfl rfl) (Nat.le_of_ble_eq_true rfl) ?_
  repeat' (first | exact True.intro | apply And.intro | (intro h; exact Bool.noConfusion h) | exact ok_op (by kernel_rfl) | exact ok_tr (by kernel_rfl) | intro _ | rfl | refine @Exists.intro Bool _ true ?_ | refine @Exists.intro Way _ .call ?_)
  refine ⟨fun m st => ∃ j : Nat, j ≤ rows.length ∧ m = rows.length - j ∧ st = AS.on [(0, .pv (.vs 1 rows)), (1, .pv (.str s)), (5, .i j)] [] 0 18 0 (fun _ => false), ⟨rows.length, _, ⟨0, Nat.zero_le _, rfl, rfl⟩, ?_⟩, ?_⟩
  · refine weak_on rfl rfl rfl rfl ?_ ?_
    repeat' (first | exact True.intro | apply And.intro | (intro h; exact Bool.noConfusion h) | exact ok_op (by kernel_rfl) | exact ok_tr (by kernel_rfl) | intro _ | rfl | refine @Exists.intro Bool _ true ?_ | refine @Exists.intro Way _ .call ?_)
  · rintro m st ⟨j, hj, rfl, rfl⟩
    by_cases hlt : j < rows.length
    · obtain ⟨w, hrow⟩ := isStr_get hr hlt
      repeat' (first | exact True.intro | apply And.intro | (intro h; exact Bool.noConfusion h) | exact ok_op (by kernel_rfl) | exact ok_tr (by kernel_rfl) | intro _ | refine Exists.intro _ (And.intro (Int.natCast_nonneg j) (And.intro hrow (And.intro rfl ?_))) | exact ⟨_, rfl⟩ | rfl | refine @Exists.intro Bool _ true ?_ | refine @Exists.intro Way _ .call ?_)
      all_goals first
        | (exfalso; have := of_decide_eq_false ‹decide ((j : Int) < rows.length) = false›; omega)
        | skip
      refine ⟨rows.length - (j + 1), _, by omega, ⟨j + 1, hlt, rfl, rfl⟩, weak_on rfl rfl rfl rfl ?_ ?_⟩
      · repeat' (first | exact True.intro | apply And.intro | (intro h; exact Bool.noConfusion h) | exact ok_op (by kernel_rfl) | exact ok_tr (by kernel_rfl) | intro _ | rfl | (apply fin_i; rw [wrap_id] <;> omega) | refine @Exists.intro Bool _ true ?_ | refine @Exists.intro Way _ .call ?_)
      · repeat' (first | exact True.intro | apply And.intro | (intro h; exact Bool.noConfusion h) | exact ok_op (by kernel_rfl) | exact ok_tr (by kernel_rfl) | intro _ | rfl | refine @Exists.intro Bool _ true ?_ | refine @Exists.intro Way _ .call ?_)
    · repeat' (first | exact True.intro | apply And.intro | (intro h; exact Bool.noConfusion h) | exact ok_op (by kernel_rfl) | exact ok_tr (by kernel_rfl) | intro _ | exact ⟨_, rfl⟩ | rfl | refine @Exists.intro Bool _ true ?_ | refine @Exists.intro Way _ .call ?_)
      all_goals (exfalso; have := of_decide_eq_true ‹decide ((j : Int) < rows.length) = true›; omega)
end Go.Proofs.YtijjagkeaehhbaaGreat.Eng

/- That the reference's test of a name returns some truth value, and what its lookups of columns return. Each function's arguments and the stated bounds are its condition. -/
set_option linter.unusedSimpArgs false
set_option linter.unusedVariables false
namespace Go.Proofs.YtijjagkeaehhbaaGreat.Eng
open Go.RowKit (Below)

theorem byte_at (t : ByteArray) (j : Nat) (h : j < t.size) : ∃ c, t[((j : Nat) : Int).toNat]? = some c := by
  have h2 : t[((j : Nat) : Int).toNat]? = t[j]? := rfl
  rw [h2]
  cases h1 : t[j]? with
  | some c => exact ⟨c, rfl⟩
  | none => rw [getElem?_pos t j h] at h1; cases h1
theorem toList_empty (t : ByteArray) (h : t.size = 0) : (t.toList == (⟨#[]⟩ : ByteArray).toList) = true := by
  have : t = ⟨#[]⟩ := by
    obtain ⟨d⟩ := t
    congr 1
    exact Array.eq_empty_of_size_eq_zero h
  rw [this]
  simp
set_option maxHeartbeats 1000000 in
theorem c_name (t : ByteArray) : AFunR Tryz.prog 49 [.pv (.str t)] someB := by
  refine afun_body T_ok mixed Tryz.func49 rfl (ent_of Tryz.func49 rfl rfl) (Nat.le_of_ble_eq_true rfl) ?_
  by_cases h0 : t.size = 0
  · have he := toList_empty t h0
    repeat' (first | exact True.intro | apply And.intro | (intro h; exact Bool.noConfusion h) | exact ok_op (by kernel_rfl) | exact ok_tr (by kernel_rfl) | intro _ | exact ⟨_, rfl⟩ | rfl | refine @Exists.intro Bool _ true ?_ | refine @Exists.intro Way _ .call ?_)
    all_goals (exfalso; rw [he] at *; exact absurd ‹true = false› (by decide))
  · obtain ⟨c0, hc0⟩ := byte_at t 0 (by omega)
    repeat' (first | exact True.intro | apply And.intro | (intro h; exact Bool.noConfusion h) | exact ok_op (by kernel_rfl) | exact ok_tr (by kernel_rfl) | intro _ | refine Exists.intro c0 (And.intro (by decide) (And.intro hc0 ?_)) | exact ⟨_, rfl⟩ | rfl | refine @Exists.intro Bool _ true ?_ | refine @Exists.intro Way _ .call ?_)
    all_goals
      have ht : t.size ≤ 24 := by have := of_decide_eq_false ‹decide ((t.size : Int) > 24) = false›; omega
      refine ⟨fun m st => ∃ j : Nat, j ≤ t.size ∧ m = t.size - j ∧ st = AS.on [(0, .pv (.str t)), (3, .i j)] [] 0 54 0 (fun _ => false), ⟨t.size, _, ⟨0, Nat.zero_le _, rfl, rfl⟩, ?_⟩, ?_⟩
    all_goals first
      | (refine weak_on rfl rfl rfl rfl ?_ ?_
         repeat' (first | exact True.intro | apply And.intro | (intro h; exact Bool.noConfusion h) | exact ok_op (by kernel_rfl) | exact ok_tr (by kernel_rfl) | intro _ | rfl | refine @Exists.intro Bool _ true ?_ | refine @Exists.intro Way _ .call ?_))
      | (rintro m st ⟨j, hj, rfl, rfl⟩
         by_cases hlt : j < t.size
         · obtain ⟨c, hc⟩ := byte_at t j hlt
           repeat' (first | exact True.intro | apply And.intro | (intro h; exact Bool.noConfusion h) | exact ok_op (by kernel_rfl) | exact ok_tr (by kernel_rfl) | intro _ | refine Exists.intro c (And.intro (Int.natCast_nonneg j) (And.intro hc ?_)) | exact ⟨_, rfl⟩ | rfl | refine @Exists.intro Bool _ true ?_ | refine @Exists.intro Way _ .call ?_)
           all_goals first
             | (exfalso; have := of_decide_eq_false ‹decide ((j : Int) < t.size) = false›; omega)
             | skip
           all_goals
             refine ⟨t.size - (j + 1), _, by omega, ⟨j + 1, hlt, rfl, rfl⟩, weak_on rfl rfl rfl rfl ?_ ?_⟩
             · repeat' (first | exact True.intro | apply And.intro | (intro h; exact Bool.noConfusion h) | exact ok_op (by kernel_rfl) | exact ok_tr (by kernel_rfl) | intro _ | rfl | (apply fin_i; rw [wrap_id] <;> omega) | refine @Exists.intro Bool _ true ?_ | refine @Exists.intro Way _ .call ?_)
             · repeat' (first | exact True.intro | apply And.intro | (intro h; exact Bool.noConfusion h) | exact ok_op (by kernel_rfl) | exact ok_tr (by kernel_rfl) | intro _ | rfl | refine @Exists.intro Bool _ true ?_ | refine @Exists.intro Way _ .call ?_)
         · repeat' (first | exact True.intro | apply And.intro | (intro h; exact Bool.noConfusion h) | exact ok_op (by kernel_rfl) | exact ok_tr (by kernel_rfl) | intro _ | refine callR_of_funR c_words rfl ?_ | rfl | refine @Exists.intro Bool _ true ?_ | refine @Exists.intro Way _ .call ?_)
           all_goals first
             | (exfalso; have := of_decide_eq_true ‹decide ((j : Int) < t.size) = true›; omega)
             | skip
           rename_i r hr
           obtain ⟨rows, rfl, hr1, hr2⟩ := hr
           have hin := c_in rows t hr1 (Nat.le_of_ble_eq_true hr2)
           repeat' (first | exact True.intro | apply And.intro | (intro h; exact Bool.noConfusion h) | exact ok_op (by kernel_rfl) | exact ok_tr (by kernel_rfl) | intro _ | refine callR_of_funR hin rfl ?_ | rfl | refine @Exists.intro Bool _ true ?_ | refine @Exists.intro Way _ .call ?_)
           rename_i r2 hr3
           obtain ⟨b, rfl⟩ := hr3
           repeat' (first | exact True.intro | apply And.intro | (intro h; exact Bool.noConfusion h) | exact ok_op (by kernel_rfl) | exact ok_tr (by kernel_rfl) | intro _ | exact ⟨_, rfl⟩ | rfl | refine @Exists.intro Bool _ true ?_ | refine @Exists.intro Way _ .call ?_))
theorem c_exists (nm : PV) (cs : List Co) (key fo ch : PV) (k : Int) : AFunR Tryz.prog 99 [tabC nm cs key fo ch, .i k] (fun r => r = .b (decide (k ≥ 0) && decide (k < (cs.map Co.row).length))) := by
  refine afun_body T_ok mixed Tryz.func99 rfl (ent_of Tryz.func99 rfl rfl) (Nat.le_of_ble_eq_true rfl) ?_
  repeat' (first | exact True.intro | apply And.intro | (intro h; exact Bool.noConfusion h) | exact ok_op (by kernel_rfl) | exact ok_tr (by kernel_rfl) | intro _ | apply fin_b | refine @Exists.intro Bool _ true ?_ | refine @Exists.intro Way _ .call ?_)
  all_goals (simp_all; try omega)
end Go.Proofs.YtijjagkeaehhbaaGreat.Eng
