/- What the reference's rule for the kind of an expression computes. The function's arguments and the stated bounds are its condition. -/
import Derived.Test.YtijjagkeaehhbaaAne
set_option linter.unusedSimpArgs false
set_option linter.unusedVariables false
namespace Go.Proofs.Ytijjagkeaehhbaa.Eng
open Go.RowKit (Below)

def resF (op n vk : Int) (l ks : List Int) : Int × Bool :=
  if op = 1 then (vk, true) else if op = 2 then (match ks[n.toNat]? with | some k => k | none => 0, true)
  else if op = 4 ∨ op = 5 ∨ op = 6 then (3, allK 3 l) else if op = 7 ∨ op = 8 ∨ op = 9 ∨ op = 10 ∨ op = 11 ∨ op = 12 then (3, (joinK 0 l).2)
  else if op = 13 ∨ op = 14 ∨ op = 15 ∨ op = 16 ∨ op = 17 ∨ op = 18 then (1, allK 1 l) else if op = 19 then (2, allK 2 l) else if op = 20 then (1, allK 2 l)
  else if op = 21 then (3, true) else if op = 22 then ((joinK 0 (l.drop 1)).1, (joinK 0 (l.drop 1)).2 && allK 3 (l.take 1)) else if op = 23 then joinK 0 l else (3, allK 1 l)
abbrev resA (r : Int × Bool) : AV := .tup [.lf (li r.1), .lf (.pv (.bool r.2))]
theorem res_eq {r : Int × Bool} {a : Int} {b : Bool} (h : r = (a, b)) : AV.tup [.lf (li a), .lf (.pv (.bool b))] = resA r := by rw [h]
theorem c_result (op n vk vi : Int) (vt s : ByteArray) (rows : List (List PV)) (l ks : List Int) (hl : l.length ≤ 9223372036854775807) (hn : op = 2 → 0 ≤ n ∧ n < ks.length) (h22 : op = 22 → 1 ≤ l.length) :
    AFunR Try.prog 106 [.agg (exL op n vk vi vt s (.vs 7 rows)), intsA l, intsA ks] (fun r => r = resA (resF op n vk l ks)) := by
  have hlen : (keyRows l).length = l.length := List.length_map ..
  have ha1 := c_all l 1 hl
  have ha2 := c_all l 2 hl
  have ha3 := c_all l 3 hl
  have hj := c_join l hl
  have hjd := c_join (l.drop 1) (by rw [List.length_drop]; omega)
  have hat := c_all (l.take 1) 3 (by rw [List.length_take]; omega)
  have e1 : keyRows (l.drop 1) = ((keyRows l).take (keyRows l).length).drop 1 := by rw [List.take_length]; exact List.map_drop ..
  have e2 : keyRows (l.take 1) = ((keyRows l).take 1).drop 0 := by rw [List.drop_zero]; exact List.map_take ..
  rw [intsA, e1] at hjd
  rw [intsA, e2] at hat
  refine afun_sem T_ok Try.func106 rfl (ent_of Try.func106 rfl rfl) (Nat.le_of_ble_eq_true rfl) ?_
  refine sem_seq (fun s1 => s1 = AS.on [(1, intsA l), (2, intsA ks), (3, .lv (.ptr 0 0))] [(0, .box 31 (exL op n vk vi vt s (.vs 7 rows)))] 1 87 0 (fun _ => false)) (sem_vc T_ok mixed ?_) ?_
  · repeat' (first | exact True.intro | apply And.intro | (intro h; exact Bool.noConfusion h) | exact ok_op (by kernel_rfl) | exact ok_tr (by kernel_rfl) | intro _ | refine weak_is (weak_on rfl rfl rfl rfl ?_ ?_) rfl | rfl | refine Exists.intro _ (And.intro rfl ?_) | refine @Exists.intro Bool _ true ?_ | refine @Exists.intro Way _ .call ?_)
  rintro _ rfl
  refine sem_seq (fun s1 => resF op n vk l ks = (3, allK 1 l) ∧ s1 = AS.on [(1, intsA l)] [] 0 87 0 (fun _ => false)) ?_ ?_
  case refine_2 =>
    rintro _ ⟨hr, rfl⟩
    refine sem_vc T_ok mixed ?_
    repeat' (first | exact True.intro | apply And.intro | (intro h; exact Bool.noConfusion h) | exact ok_op (by kernel_rfl) | exact ok_tr (by kernel_rfl) | intro _ | refine callR_of_fun ha1.afun rfl ?_ | refine fin_to (y := .tup [.lf (li _), .lf (.pv (.bool _))]) rfl ?_ | rfl | refine @Exists.intro Bool _ true ?_ | refine @Exists.intro Way _ .call ?_)
    exact ⟨res_eq hr⟩
  refine sem_seq (fun s1 => s1 = AS.on [(1, intsA l), (2, intsA ks), (3, .lv (.ptr 0 0)), (13, .i op)] [(0, .box 31 (exL op n vk vi vt s (.vs 7 rows)))] 1 87 0 (fun _ => false)) (sem_vc T_ok mixed ?_) ?_
  · repeat' (first | exact True.intro | apply And.intro | (intro h; exact Bool.noConfusion h) | exact ok_op (by kernel_rfl) | exact ok_tr (by kernel_rfl) | intro _ | refine weak_is (weak_on rfl rfl rfl rfl ?_ ?_) rfl | rfl | refine Exists.intro _ (And.intro rfl ?_) | refine @Exists.intro Bool _ true ?_ | refine @Exists.intro Way _ .call ?_)
  rintro _ rfl
  refine sem_block ?_
  refine sem_seq (fun s1 => s1 = AS.on [(1, intsA l), (2, intsA ks), (3, .lv (.ptr 0 0)), (13, .i op), (14, .b (op == 1))] [(0, .box 31 (exL op n vk vi vt s (.vs 7 rows)))] 1 87 0 (fun _ => false)) (sem_vc T_ok mixed ?_) ?_
  · repeat' (first | exact True.intro | apply And.intro | (intro h; exact Bool.noConfusion h) | exact ok_op (by kernel_rfl) | exact ok_tr (by kernel_rfl) | intro _ | refine weak_is (weak_on rfl rfl rfl rfl ?_ ?_) rfl | rfl | apply fin_b | refine Exists.intro _ (And.intro rfl ?_) | refine @Exists.intro Bool _ true ?_ | refine @Exists.intro Way _ .call ?_)
    all_goals grind
  rintro _ rfl
  refine sem_cond rfl (fun h => sem_vc T_ok mixed ?_) fun h14 => ?_
  · simp only [Bool.or_eq_true, beq_iff_eq] at h
    repeat' (first | exact True.intro | apply And.intro | (intro h; exact Bool.noConfusion h) | exact ok_op (by kernel_rfl) | exact ok_tr (by kernel_rfl) | intro _ | refine fin_to (y := .tup [.lf (li _), .lf (.pv (.bool _))]) rfl ?_ | rfl | refine @Exists.intro Bool _ true ?_ | refine @Exists.intro Way _ .call ?_)
    exact ⟨res_eq (by unfold resF; grind)⟩
  simp only [Bool.or_eq_false_iff, beq_eq_false_iff_ne, ne_eq] at h14
  refine sem_seq (fun s1 => s1 = AS.on [(1, intsA l), (2, intsA ks), (3, .lv (.ptr 0 0)), (13, .i op), (19, .b (op == 2))] [(0, .box 31 (exL op n vk vi vt s (.vs 7 rows)))] 1 87 0 (fun _ => false)) (sem_vc T_ok mixed ?_) ?_
  · repeat' (first | exact True.intro | apply And.intro | (intro h; exact Bool.noConfusion h) | exact ok_op (by kernel_rfl) | exact ok_tr (by kernel_rfl) | intro _ | refine weak_is (weak_on rfl rfl rfl rfl ?_ ?_) rfl | rfl | apply fin_b | refine Exists.intro _ (And.intro rfl ?_) | refine @Exists.intro Bool _ true ?_ | refine @Exists.intro Way _ .call ?_)
    all_goals grind
  rintro _ rfl
  refine sem_cond rfl (fun h => sem_vc T_ok mixed ?_) fun h19 => ?_
  · simp only [Bool.or_eq_true, beq_iff_eq] at h
    obtain ⟨hn1, hn2⟩ := hn h
    obtain ⟨kn, hkn⟩ : ∃ k, ks[n.toNat]? = some k := ⟨_, List.getElem?_eq_getElem (by omega)⟩
    have hrow : (keyRows ks)[n.toNat]? = some [I kn] := by rw [List.getElem?_map, hkn]; rfl
    repeat' (first | exact True.intro | apply And.intro | (intro h; exact Bool.noConfusion h) | exact ok_op (by kernel_rfl) | exact ok_tr (by kernel_rfl) | intro _ | refine Exists.intro _ (And.intro hn1 (And.intro hrow (And.intro rfl ?_))) | refine fin_to (y := .tup [.lf (li _), .lf (.pv (.bool _))]) rfl ?_ | rfl | refine @Exists.intro Bool _ true ?_ | refine @Exists.intro Way _ .call ?_)
    exact ⟨res_eq (by unfold resF; rw [hkn]; grind)⟩
  simp only [Bool.or_eq_false_iff, beq_eq_false_iff_ne, ne_eq] at h19
  refine sem_seq (fun s1 => s1 = AS.on [(1, intsA l), (2, intsA ks), (3, .lv (.ptr 0 0)), (13, .i op), (26, .b (op == 4 || op == 5 || op == 6))] [(0, .box 31 (exL op n vk vi vt s (.vs 7 rows)))] 1 87 0 (fun _ => false)) (sem_vc T_ok mixed ?_) ?_
  · repeat' (first | exact True.intro | apply And.intro | (intro h; exact Bool.noConfusion h) | exact ok_op (by kernel_rfl) | exact ok_tr (by kernel_rfl) | intro _ | refine weak_is (weak_on rfl rfl rfl rfl ?_ ?_) rfl | rfl | apply fin_b | refine Exists.intro _ (And.intro rfl ?_) | refine @Exists.intro Bool _ true ?_ | refine @Exists.intro Way _ .call ?_)
    all_goals grind
  rintro _ rfl
  refine sem_cond rfl (fun h => sem_vc T_ok mixed ?_) fun h26 => ?_
  · simp only [Bool.or_eq_true, beq_iff_eq] at h
    repeat' (first | exact True.intro | apply And.intro | (intro h; exact Bool.noConfusion h) | exact ok_op (by kernel_rfl) | exact ok_tr (by kernel_rfl) | intro _ | refine callR_of_fun ha3.afun rfl ?_ | refine fin_to (y := .tup [.lf (li _), .lf (.pv (.bool _))]) rfl ?_ | rfl | refine @Exists.intro Bool _ true ?_ | refine @Exists.intro Way _ .call ?_)
    exact ⟨res_eq (by unfold resF; grind)⟩
  simp only [Bool.or_eq_false_iff, beq_eq_false_iff_ne, ne_eq] at h26
  refine sem_seq (fun s1 => s1 = AS.on [(1, intsA l), (2, intsA ks), (3, .lv (.ptr 0 0)), (13, .i op), (32, .b (op == 7 || op == 8 || op == 9 || op == 10 || op == 11 || op == 12))] [(0, .box 31 (exL op n vk vi vt s (.vs 7 rows)))] 1 87 0 (fun _ => false)) (sem_vc T_ok mixed ?_) ?_
  · repeat' (first | exact True.intro | apply And.intro | (intro h; exact Bool.noConfusion h) | exact ok_op (by kernel_rfl) | exact ok_tr (by kernel_rfl) | intro _ | refine weak_is (weak_on rfl rfl rfl rfl ?_ ?_) rfl | rfl | apply fin_b | refine Exists.intro _ (And.intro rfl ?_) | refine @Exists.intro Bool _ true ?_ | refine @Exists.intro Way _ .call ?_)
    all_goals grind
  rintro _ rfl
  refine sem_cond rfl (fun h => sem_vc T_ok mixed ?_) fun h32 => ?_
  · simp only [Bool.or_eq_true, beq_iff_eq] at h
    repeat' (first | exact True.intro | apply And.intro | (intro h; exact Bool.noConfusion h) | exact ok_op (by kernel_rfl) | exact ok_tr (by kernel_rfl) | intro _ | refine callR_of_fun hj.afun rfl ?_ | refine fin_to (y := .tup [.lf (li _), .lf (.pv (.bool _))]) rfl ?_ | rfl | refine @Exists.intro Bool _ true ?_ | refine @Exists.intro Way _ .call ?_)
    exact ⟨res_eq (by unfold resF; grind)⟩
  simp only [Bool.or_eq_false_iff, beq_eq_false_iff_ne, ne_eq] at h32
  refine sem_seq (fun s1 => s1 = AS.on [(1, intsA l), (2, intsA ks), (3, .lv (.ptr 0 0)), (13, .i op), (45, .b (op == 13 || op == 14 || op == 15 || op == 16 || op == 17 || op == 18))] [(0, .box 31 (exL op n vk vi vt s (.vs 7 rows)))] 1 87 0 (fun _ => false)) (sem_vc T_ok mixed ?_) ?_
  · repeat' (first | exact True.intro | apply And.intro | (intro h; exact Bool.noConfusion h) | exact ok_op (by kernel_rfl) | exact ok_tr (by kernel_rfl) | intro _ | refine weak_is (weak_on rfl rfl rfl rfl ?_ ?_) rfl | rfl | apply fin_b | refine Exists.intro _ (And.intro rfl ?_) | refine @Exists.intro Bool _ true ?_ | refine @Exists.intro Way _ .call ?_)
    all_goals grind
  rintro _ rfl
  refine sem_cond rfl (fun h => sem_vc T_ok mixed ?_) fun h45 => ?_
  · simp only [Bool.or_eq_true, beq_iff_eq] at h
    repeat' (first | exact True.intro | apply And.intro | (intro h; exact Bool.noConfusion h) | exact ok_op (by kernel_rfl) | exact ok_tr (by kernel_rfl) | intro _ | refine callR_of_fun ha1.afun rfl ?_ | refine fin_to (y := .tup [.lf (li _), .lf (.pv (.bool _))]) rfl ?_ | rfl | refine @Exists.intro Bool _ true ?_ | refine @Exists.intro Way _ .call ?_)
    exact ⟨res_eq (by unfold resF; grind)⟩
  simp only [Bool.or_eq_false_iff, beq_eq_false_iff_ne, ne_eq] at h45
  refine sem_seq (fun s1 => s1 = AS.on [(1, intsA l), (2, intsA ks), (3, .lv (.ptr 0 0)), (13, .i op), (54, .b (op == 19))] [(0, .box 31 (exL op n vk vi vt s (.vs 7 rows)))] 1 87 0 (fun _ => false)) (sem_vc T_ok mixed ?_) ?_
  · repeat' (first | exact True.intro | apply And.intro | (intro h; exact Bool.noConfusion h) | exact ok_op (by kernel_rfl) | exact ok_tr (by kernel_rfl) | intro _ | refine weak_is (weak_on rfl rfl rfl rfl ?_ ?_) rfl | rfl | apply fin_b | refine Exists.intro _ (And.intro rfl ?_) | refine @Exists.intro Bool _ true ?_ | refine @Exists.intro Way _ .call ?_)
    all_goals grind
  rintro _ rfl
  refine sem_cond rfl (fun h => sem_vc T_ok mixed ?_) fun h54 => ?_
  · simp only [Bool.or_eq_true, beq_iff_eq] at h
    repeat' (first | exact True.intro | apply And.intro | (intro h; exact Bool.noConfusion h) | exact ok_op (by kernel_rfl) | exact ok_tr (by kernel_rfl) | intro _ | refine callR_of_fun ha2.afun rfl ?_ | refine fin_to (y := .tup [.lf (li _), .lf (.pv (.bool _))]) rfl ?_ | rfl | refine @Exists.intro Bool _ true ?_ | refine @Exists.intro Way _ .call ?_)
    exact ⟨res_eq (by unfold resF; grind)⟩
  simp only [Bool.or_eq_false_iff, beq_eq_false_iff_ne, ne_eq] at h54
  refine sem_seq (fun s1 => s1 = AS.on [(1, intsA l), (2, intsA ks), (3, .lv (.ptr 0 0)), (13, .i op), (58, .b (op == 20))] [(0, .box 31 (exL op n vk vi vt s (.vs 7 rows)))] 1 87 0 (fun _ => false)) (sem_vc T_ok mixed ?_) ?_
  · repeat' (first | exact True.intro | apply And.intro | (intro h; exact Bool.noConfusion h) | exact ok_op (by kernel_rfl) | exact ok_tr (by kernel_rfl) | intro _ | refine weak_is (weak_on rfl rfl rfl rfl ?_ ?_) rfl | rfl | apply fin_b | refine Exists.intro _ (And.intro rfl ?_) | refine @Exists.intro Bool _ true ?_ | refine @Exists.intro Way _ .call ?_)
    all_goals grind
  rintro _ rfl
  refine sem_cond rfl (fun h => sem_vc T_ok mixed ?_) fun h58 => ?_
  · simp only [Bool.or_eq_true, beq_iff_eq] at h
    repeat' (first | exact True.intro | apply And.intro | (intro h; exact Bool.noConfusion h) | exact ok_op (by kernel_rfl) | exact ok_tr (by kernel_rfl) | intro _ | refine callR_of_fun ha2.afun rfl ?_ | refine fin_to (y := .tup [.lf (li _), .lf (.pv (.bool _))]) rfl ?_ | rfl | refine @Exists.intro Bool _ true ?_ | refine @Exists.intro Way _ .call ?_)
    exact ⟨res_eq (by unfold resF; grind)⟩
  simp only [Bool.or_eq_false_iff, beq_eq_false_iff_ne, ne_eq] at h58
  refine sem_seq (fun s1 => s1 = AS.on [(1, intsA l), (2, intsA ks), (3, .lv (.ptr 0 0)), (13, .i op), (62, .b (op == 21))] [(0, .box 31 (exL op n vk vi vt s (.vs 7 rows)))] 1 87 0 (fun _ => false)) (sem_vc T_ok mixed ?_) ?_
  · repeat' (first | exact True.intro | apply And.intro | (intro h; exact Bool.noConfusion h) | exact ok_op (by kernel_rfl) | exact ok_tr (by kernel_rfl) | intro _ | refine weak_is (weak_on rfl rfl rfl rfl ?_ ?_) rfl | rfl | apply fin_b | refine Exists.intro _ (And.intro rfl ?_) | refine @Exists.intro Bool _ true ?_ | refine @Exists.intro Way _ .call ?_)
    all_goals grind
  rintro _ rfl
  refine sem_cond rfl (fun h => sem_vc T_ok mixed ?_) fun h62 => ?_
  · simp only [Bool.or_eq_true, beq_iff_eq] at h
    repeat' (first | exact True.intro | apply And.intro | (intro h; exact Bool.noConfusion h) | exact ok_op (by kernel_rfl) | exact ok_tr (by kernel_rfl) | intro _ | refine fin_to (y := .tup [.lf (li _), .lf (.pv (.bool _))]) rfl ?_ | rfl | refine @Exists.intro Bool _ true ?_ | refine @Exists.intro Way _ .call ?_)
    exact ⟨res_eq (by unfold resF; grind)⟩
  simp only [Bool.or_eq_false_iff, beq_eq_false_iff_ne, ne_eq] at h62
  refine sem_seq (fun s1 => s1 = AS.on [(1, intsA l), (2, intsA ks), (3, .lv (.ptr 0 0)), (13, .i op), (64, .b (op == 22))] [(0, .box 31 (exL op n vk vi vt s (.vs 7 rows)))] 1 87 0 (fun _ => false)) (sem_vc T_ok mixed ?_) ?_
  · repeat' (first | exact True.intro | apply And.intro | (intro h; exact Bool.noConfusion h) | exact ok_op (by kernel_rfl) | exact ok_tr (by kernel_rfl) | intro _ | refine weak_is (weak_on rfl rfl rfl rfl ?_ ?_) rfl | rfl | apply fin_b | refine Exists.intro _ (And.intro rfl ?_) | refine @Exists.intro Bool _ true ?_ | refine @Exists.intro Way _ .call ?_)
    all_goals grind
  rintro _ rfl
  refine sem_cond rfl (fun h => sem_vc T_ok mixed ?_) fun h64 => ?_
  · simp only [Bool.or_eq_true, beq_iff_eq] at h
    have hl1 := h22 h
    repeat' (first | exact True.intro | apply And.intro | (intro h; exact Bool.noConfusion h) | exact ok_op (by kernel_rfl) | exact ok_tr (by kernel_rfl) | intro _ | refine callR_of_fun hjd.afun rfl ?_ | refine callR_of_fun hat.afun rfl ?_ | refine Exists.intro _ (And.intro (pure_slice (l := 1) (h := (keyRows l).length) rfl Try.underlying23 (by kernel_rfl) (by kernel_rfl) (Exists.intro _ rfl) rfl (by omega) (Nat.le_refl _)) ?_) | refine Exists.intro _ (And.intro (pure_slice (l := 0) (h := 1) rfl Try.underlying23 (by kernel_rfl) (by kernel_rfl) rfl (Exists.intro _ rfl) (Nat.zero_le _) (by omega)) ?_) | refine fin_to (y := .tup [.lf (li _), .lf (.pv (.bool _))]) rfl ?_ | rfl | refine @Exists.intro Bool _ true ?_ | refine @Exists.intro Way _ .call ?_)
    all_goals exact ⟨res_eq (by unfold resF; grind)⟩
  simp only [Bool.or_eq_false_iff, beq_eq_false_iff_ne, ne_eq] at h64
  refine sem_seq (fun s1 => s1 = AS.on [(1, intsA l), (2, intsA ks), (3, .lv (.ptr 0 0)), (13, .i op), (79, .b (op == 23))] [(0, .box 31 (exL op n vk vi vt s (.vs 7 rows)))] 1 87 0 (fun _ => false)) (sem_vc T_ok mixed ?_) ?_
  · repeat' (first | exact True.intro | apply And.intro | (intro h; exact Bool.noConfusion h) | exact ok_op (by kernel_rfl) | exact ok_tr (by kernel_rfl) | intro _ | refine weak_is (weak_on rfl rfl rfl rfl ?_ ?_) rfl | rfl | apply fin_b | refine Exists.intro _ (And.intro rfl ?_) | refine @Exists.intro Bool _ true ?_ | refine @Exists.intro Way _ .call ?_)
    all_goals grind
  rintro _ rfl
  refine sem_cond rfl (fun h => sem_vc T_ok mixed ?_) fun h79 => ?_
  · simp only [Bool.or_eq_true, beq_iff_eq] at h
    repeat' (first | exact True.intro | apply And.intro | (intro h; exact Bool.noConfusion h) | exact ok_op (by kernel_rfl) | exact ok_tr (by kernel_rfl) | intro _ | refine callR_of_fun hj.afun rfl ?_ | refine fin_to (y := .tup [.lf (li _), .lf (.pv (.bool _))]) rfl ?_ | rfl | refine @Exists.intro Bool _ true ?_ | refine @Exists.intro Way _ .call ?_)
    exact ⟨res_eq (by unfold resF; grind)⟩
  simp only [Bool.or_eq_false_iff, beq_eq_false_iff_ne, ne_eq] at h79
  refine sem_vc T_ok mixed ?_
  repeat' (first | exact True.intro | apply And.intro | (intro h; exact Bool.noConfusion h) | exact ok_op (by kernel_rfl) | exact ok_tr (by kernel_rfl) | intro _ | refine weak_is (weak_on rfl rfl rfl rfl ?_ ?_) ⟨by unfold resF; grind, rfl⟩ | rfl | refine @Exists.intro Bool _ true ?_ | refine @Exists.intro Way _ .call ?_)
end Go.Proofs.Ytijjagkeaehhbaa.Eng
