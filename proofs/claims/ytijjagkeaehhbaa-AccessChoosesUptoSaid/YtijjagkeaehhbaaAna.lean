/- What the reference's tests of values and of expressions compute. Each function's arguments are its condition. -/
import Derived.Test.YtijjagkeaehhbaaAmc
import Derived.Test.YtijjagkeaehhbaaEngX
set_option linter.unusedSimpArgs false
set_option linter.unusedVariables false
namespace Go.Proofs.Ytijjagkeaehhbaa.Eng
open Go.RowKit (Below)

theorem c_rprintable (t : ByteArray) (ht : t.size ≤ 200) : AFunR Try.prog 143 [.pv (.str t)] (fun r => r = .b (printB t)) := by
  refine afun_body T_ok mixed Try.func143 rfl (ent_of Try.func143 rfl rfl) (Nat.le_of_ble_eq_true rfl) ?_
  repeat' (first | exact True.intro | apply And.intro | (intro h; exact Bool.noConfusion h) | exact ok_op (by kernel_rfl) | exact ok_tr (by kernel_rfl) | intro _ | refine @Exists.intro Bool _ true ?_ | refine @Exists.intro Way _ .call ?_)
  refine ⟨fun m s => ∃ j : Nat, j ≤ t.size ∧ (∀ i, i < j → byteOk t i = true) ∧ m = t.size - j ∧ s = AS.on [(0, .pv (.str t)), (3, .i j)] [] 0 20 0 (fun _ => false), ⟨t.size, _, ⟨0, Nat.zero_le _, fun i hi => absurd hi (Nat.not_lt_zero _), rfl, rfl⟩, ?_⟩, ?_⟩
  · refine weak_on rfl rfl rfl rfl ?_ ?_
    repeat' (first | exact True.intro | apply And.intro | (intro h; exact Bool.noConfusion h) | exact ok_op (by kernel_rfl) | exact ok_tr (by kernel_rfl) | intro _ | rfl | refine @Exists.intro Bool _ true ?_ | refine @Exists.intro Way _ .call ?_)
  · rintro m s ⟨j, hj, hall, rfl, rfl⟩
    by_cases hlt : j < t.size
    · obtain ⟨c, hc⟩ : ∃ c, t[j]? = some c := by
        cases h : t[j]? with
        | some c => exact ⟨c, rfl⟩
        | none => rw [getElem?_pos t j hlt] at h; cases h
      have hc' : t[((j : Nat) : Int).toNat]? = some c := hc
      have hb : byteOk t j = !(decide ((c.toNat : Int) < 32) || decide ((c.toNat : Int) > 126)) := by unfold byteOk; rw [hc]
      repeat' (first | exact True.intro | apply And.intro | (intro h; exact Bool.noConfusion h) | exact ok_op (by kernel_rfl) | exact ok_tr (by kernel_rfl) | intro _ | refine Exists.intro c (And.intro (Int.natCast_nonneg j) (And.intro hc' ?_)) | apply fin_b | rfl | refine @Exists.intro Bool _ true ?_ | refine @Exists.intro Way _ .call ?_)
      all_goals first
        | (exfalso; have := of_decide_eq_false ‹decide ((j : Int) < t.size) = false›; omega)
        | (refine ⟨t.size - (j + 1), _, by omega, ⟨j + 1, hlt, fun i hi => ?_, rfl, rfl⟩, weak_on rfl rfl rfl rfl ?_ ?_⟩
           · rcases Nat.lt_succ_iff_lt_or_eq.1 hi with h | h
             · exact hall i h
             · subst h; rw [hb]; simp_all
           · repeat' (first | exact True.intro | apply And.intro | (intro h; exact Bool.noConfusion h) | exact ok_op (by kernel_rfl) | exact ok_tr (by kernel_rfl) | intro _ | rfl | (apply fin_i; rw [wrap_id] <;> omega) | refine @Exists.intro Bool _ true ?_ | refine @Exists.intro Way _ .call ?_)
           · repeat' (first | exact True.intro | apply And.intro | (intro h; exact Bool.noConfusion h) | exact ok_op (by kernel_rfl) | exact ok_tr (by kernel_rfl) | intro _ | rfl | refine @Exists.intro Bool _ true ?_ | refine @Exists.intro Way _ .call ?_))
        | (symm; apply printB_no hlt; rw [hb]; simp_all)
    · have hj' : j = t.size := by omega
      subst hj'
      repeat' (first | exact True.intro | apply And.intro | (intro h; exact Bool.noConfusion h) | exact ok_op (by kernel_rfl) | exact ok_tr (by kernel_rfl) | intro _ | apply fin_b | refine @Exists.intro Bool _ true ?_ | refine @Exists.intro Way _ .call ?_)
      all_goals first
        | (exfalso; have := of_decide_eq_true ‹decide ((t.size : Int) < t.size) = true›; omega)
        | (symm; unfold printB; rw [List.all_eq_true]; intro i hi; exact hall i (List.mem_range.1 hi))
theorem c_rvvalid (k i : Int) (t : ByteArray) : AFunR Try.prog 131 [valA k i t] (fun r => r = .b (validV k i t)) := by
  refine afun_body T_ok mixed Try.func131 rfl (ent_of Try.func131 rfl rfl) (Nat.le_of_ble_eq_true rfl) ?_
  repeat' (first | exact True.intro | apply And.intro | (intro h; exact Bool.noConfusion h) | exact ok_op (by kernel_rfl) | exact ok_tr (by kernel_rfl) | intro _ | refine callR_of_fun (c_rprintable t (by have := of_decide_eq_true ‹decide ((t.size : Int) ≤ 200) = true›; omega)).afun rfl ?_ | apply fin_b | refine @Exists.intro Bool _ true ?_ | refine @Exists.intro Way _ .call ?_)
  all_goals (unfold validV emptyB; grind)

def arLow (op : Int) : Int :=
  if op = 1 ∨ op = 2 then 0 else if op = 4 ∨ op = 18 ∨ op = 20 ∨ op = 21 then 1 else if op = 5 ∨ op = 6 then 2
  else if op = 7 ∨ op = 8 ∨ op = 9 ∨ op = 10 ∨ op = 11 ∨ op = 12 ∨ op = 13 ∨ op = 14 ∨ op = 15 ∨ op = 16 ∨ op = 17 ∨ op = 19 then 2
  else if op = 22 then 3 else if op = 23 then 1 else if op = 24 then 4 else -1
def arHigh (op : Int) : Int :=
  if op = 1 ∨ op = 2 then 0 else if op = 4 ∨ op = 18 ∨ op = 20 ∨ op = 21 then 1 else if op = 5 ∨ op = 6 then 1099511627776
  else if op = 7 ∨ op = 8 ∨ op = 9 ∨ op = 10 ∨ op = 11 ∨ op = 12 ∨ op = 13 ∨ op = 14 ∨ op = 15 ∨ op = 16 ∨ op = 17 ∨ op = 19 then 2
  else if op = 22 then 3 else if op = 23 then 1099511627776 else if op = 24 then 4 else 0
theorem ar_eq {op a b : Int} (h1 : arLow op = a) (h2 : arHigh op = b) : AV.tup [.lf (li a), .lf (li b)] = .tup [.lf (li (arLow op)), .lf (li (arHigh op))] := by rw [h1, h2]
theorem c_arity (op : Int) : AFunR Try.prog 104 [.i op] (fun r => r = .tup [.lf (li (arLow op)), .lf (li (arHigh op))]) := by
  refine afun_sem T_ok Try.func104 rfl (ent_of Try.func104 rfl rfl) (Nat.le_of_ble_eq_true rfl) ?_
  refine sem_seq (fun s1 => s1 = AS.on [(0, .i op), (2, .i 0), (3, .i 0)] [] 0 35 0 (fun _ => false)) (sem_vc T_ok mixed ?_) ?_
  · repeat' (first | exact True.intro | apply And.intro | (intro h; exact Bool.noConfusion h) | exact ok_op (by kernel_rfl) | exact ok_tr (by kernel_rfl) | intro _ | refine weak_is (weak_on rfl rfl rfl rfl ?_ ?_) rfl | rfl | refine @Exists.intro Bool _ true ?_ | refine @Exists.intro Way _ .call ?_)
  rintro _ rfl
  refine sem_seq (fun s1 => arLow op = -1 ∧ arHigh op = 0 ∧ s1 = AS.on [] [] 0 35 0 (fun _ => false)) ?_ ?_
  case refine_2 =>
    rintro _ ⟨hl, hh, rfl⟩
    refine sem_vc T_ok mixed ?_
    repeat' (first | exact True.intro | apply And.intro | (intro h; exact Bool.noConfusion h) | exact ok_op (by kernel_rfl) | exact ok_tr (by kernel_rfl) | intro _ | refine fin_to (y := .tup [.lf (li _), .lf (li _)]) rfl ?_ | refine @Exists.intro Bool _ true ?_ | refine @Exists.intro Way _ .call ?_)
    exact ⟨ar_eq hl hh⟩
  refine sem_seq (fun s1 => s1 = AS.on [(2, .i 0), (3, .i 0), (4, .i op)] [] 0 35 0 (fun _ => false)) (sem_vc T_ok mixed ?_) ?_
  · repeat' (first | exact True.intro | apply And.intro | (intro h; exact Bool.noConfusion h) | exact ok_op (by kernel_rfl) | exact ok_tr (by kernel_rfl) | intro _ | refine weak_is (weak_on rfl rfl rfl rfl ?_ ?_) rfl | rfl | refine @Exists.intro Bool _ true ?_ | refine @Exists.intro Way _ .call ?_)
  rintro _ rfl
  refine sem_block ?_
  refine sem_seq (fun s1 => s1 = AS.on [(2, .i 0), (3, .i 0), (4, .i op), (5, .b (op == 1 || op == 2))] [] 0 35 0 (fun _ => false)) (sem_vc T_ok mixed ?_) ?_
  · repeat' (first | exact True.intro | apply And.intro | (intro h; exact Bool.noConfusion h) | exact ok_op (by kernel_rfl) | exact ok_tr (by kernel_rfl) | intro _ | refine weak_is (weak_on rfl rfl rfl rfl ?_ ?_) rfl | rfl | apply fin_b | refine @Exists.intro Bool _ true ?_ | refine @Exists.intro Way _ .call ?_)
    all_goals first
      | rfl
      | simp_all
  rintro _ rfl
  refine sem_cond rfl (fun h => sem_vc T_ok mixed ?_) fun h5 => ?_
  · simp only [Bool.or_eq_true, beq_iff_eq] at h
    repeat' (first | exact True.intro | apply And.intro | (intro h; exact Bool.noConfusion h) | exact ok_op (by kernel_rfl) | exact ok_tr (by kernel_rfl) | intro _ | refine fin_to (y := .tup [.lf (li _), .lf (li _)]) rfl ?_ | refine @Exists.intro Bool _ true ?_ | refine @Exists.intro Way _ .call ?_)
    exact ⟨ar_eq (by unfold arLow; omega) (by unfold arHigh; omega)⟩
  simp only [Bool.or_eq_false_iff, beq_eq_false_iff_ne, ne_eq] at h5
  refine sem_seq (fun s1 => s1 = AS.on [(2, .i 0), (3, .i 0), (4, .i op), (8, .b (op == 4 || op == 18 || op == 20 || op == 21))] [] 0 35 0 (fun _ => false)) (sem_vc T_ok mixed ?_) ?_
  · repeat' (first | exact True.intro | apply And.intro | (intro h; exact Bool.noConfusion h) | exact ok_op (by kernel_rfl) | exact ok_tr (by kernel_rfl) | intro _ | refine weak_is (weak_on rfl rfl rfl rfl ?_ ?_) rfl | rfl | apply fin_b | refine @Exists.intro Bool _ true ?_ | refine @Exists.intro Way _ .call ?_)
    all_goals first
      | rfl
      | simp_all
  rintro _ rfl
  refine sem_cond rfl (fun h => sem_vc T_ok mixed ?_) fun h8 => ?_
  · simp only [Bool.or_eq_true, beq_iff_eq] at h
    repeat' (first | exact True.intro | apply And.intro | (intro h; exact Bool.noConfusion h) | exact ok_op (by kernel_rfl) | exact ok_tr (by kernel_rfl) | intro _ | refine fin_to (y := .tup [.lf (li _), .lf (li _)]) rfl ?_ | refine @Exists.intro Bool _ true ?_ | refine @Exists.intro Way _ .call ?_)
    exact ⟨ar_eq (by unfold arLow; omega) (by unfold arHigh; omega)⟩
  simp only [Bool.or_eq_false_iff, beq_eq_false_iff_ne, ne_eq] at h8
  refine sem_seq (fun s1 => s1 = AS.on [(2, .i 0), (3, .i 0), (4, .i op), (13, .b (op == 5 || op == 6))] [] 0 35 0 (fun _ => false)) (sem_vc T_ok mixed ?_) ?_
  · repeat' (first | exact True.intro | apply And.intro | (intro h; exact Bool.noConfusion h) | exact ok_op (by kernel_rfl) | exact ok_tr (by kernel_rfl) | intro _ | refine weak_is (weak_on rfl rfl rfl rfl ?_ ?_) rfl | rfl | apply fin_b | refine @Exists.intro Bool _ true ?_ | refine @Exists.intro Way _ .call ?_)
    all_goals first
      | rfl
      | simp_all
  rintro _ rfl
  refine sem_cond rfl (fun h => sem_vc T_ok mixed ?_) fun h13 => ?_
  · simp only [Bool.or_eq_true, beq_iff_eq] at h
    repeat' (first | exact True.intro | apply And.intro | (intro h; exact Bool.noConfusion h) | exact ok_op (by kernel_rfl) | exact ok_tr (by kernel_rfl) | intro _ | refine fin_to (y := .tup [.lf (li _), .lf (li _)]) rfl ?_ | refine @Exists.intro Bool _ true ?_ | refine @Exists.intro Way _ .call ?_)
    exact ⟨ar_eq (by unfold arLow; omega) (by unfold arHigh; omega)⟩
  simp only [Bool.or_eq_false_iff, beq_eq_false_iff_ne, ne_eq] at h13
  refine sem_seq (fun s1 => s1 = AS.on [(2, .i 0), (3, .i 0), (4, .i op), (16, .b (op == 7 || op == 8 || op == 9 || op == 10 || op == 11 || op == 12 || op == 13 || op == 14 || op == 15 || op == 16 || op == 17 || op == 19))] [] 0 35 0 (fun _ => false)) (sem_vc T_ok mixed ?_) ?_
  · repeat' (first | exact True.intro | apply And.intro | (intro h; exact Bool.noConfusion h) | exact ok_op (by kernel_rfl) | exact ok_tr (by kernel_rfl) | intro _ | refine weak_is (weak_on rfl rfl rfl rfl ?_ ?_) rfl | rfl | apply fin_b | refine @Exists.intro Bool _ true ?_ | refine @Exists.intro Way _ .call ?_)
    all_goals first
      | rfl
      | simp_all
  rintro _ rfl
  refine sem_cond rfl (fun h => sem_vc T_ok mixed ?_) fun h16 => ?_
  · simp only [Bool.or_eq_true, beq_iff_eq] at h
    repeat' (first | exact True.intro | apply And.intro | (intro h; exact Bool.noConfusion h) | exact ok_op (by kernel_rfl) | exact ok_tr (by kernel_rfl) | intro _ | refine fin_to (y := .tup [.lf (li _), .lf (li _)]) rfl ?_ | refine @Exists.intro Bool _ true ?_ | refine @Exists.intro Way _ .call ?_)
    exact ⟨ar_eq (by unfold arLow; omega) (by unfold arHigh; omega)⟩
  simp only [Bool.or_eq_false_iff, beq_eq_false_iff_ne, ne_eq] at h16
  refine sem_seq (fun s1 => s1 = AS.on [(2, .i 0), (3, .i 0), (4, .i op), (29, .b (op == 22))] [] 0 35 0 (fun _ => false)) (sem_vc T_ok mixed ?_) ?_
  · repeat' (first | exact True.intro | apply And.intro | (intro h; exact Bool.noConfusion h) | exact ok_op (by kernel_rfl) | exact ok_tr (by kernel_rfl) | intro _ | refine weak_is (weak_on rfl rfl rfl rfl ?_ ?_) rfl | rfl | apply fin_b | refine @Exists.intro Bool _ true ?_ | refine @Exists.intro Way _ .call ?_)
    all_goals first
      | rfl
      | simp_all
  rintro _ rfl
  refine sem_cond rfl (fun h => sem_vc T_ok mixed ?_) fun h29 => ?_
  · simp only [Bool.or_eq_true, beq_iff_eq] at h
    repeat' (first | exact True.intro | apply And.intro | (intro h; exact Bool.noConfusion h) | exact ok_op (by kernel_rfl) | exact ok_tr (by kernel_rfl) | intro _ | refine fin_to (y := .tup [.lf (li _), .lf (li _)]) rfl ?_ | refine @Exists.intro Bool _ true ?_ | refine @Exists.intro Way _ .call ?_)
    exact ⟨ar_eq (by unfold arLow; omega) (by unfold arHigh; omega)⟩
  simp only [Bool.or_eq_false_iff, beq_eq_false_iff_ne, ne_eq] at h29
  refine sem_seq (fun s1 => s1 = AS.on [(2, .i 0), (3, .i 0), (4, .i op), (31, .b (op == 23))] [] 0 35 0 (fun _ => false)) (sem_vc T_ok mixed ?_) ?_
  · repeat' (first | exact True.intro | apply And.intro | (intro h; exact Bool.noConfusion h) | exact ok_op (by kernel_rfl) | exact ok_tr (by kernel_rfl) | intro _ | refine weak_is (weak_on rfl rfl rfl rfl ?_ ?_) rfl | rfl | apply fin_b | refine @Exists.intro Bool _ true ?_ | refine @Exists.intro Way _ .call ?_)
    all_goals first
      | rfl
      | simp_all
  rintro _ rfl
  refine sem_cond rfl (fun h => sem_vc T_ok mixed ?_) fun h31 => ?_
  · simp only [Bool.or_eq_true, beq_iff_eq] at h
    repeat' (first | exact True.intro | apply And.intro | (intro h; exact Bool.noConfusion h) | exact ok_op (by kernel_rfl) | exact ok_tr (by kernel_rfl) | intro _ | refine fin_to (y := .tup [.lf (li _), .lf (li _)]) rfl ?_ | refine @Exists.intro Bool _ true ?_ | refine @Exists.intro Way _ .call ?_)
    exact ⟨ar_eq (by unfold arLow; omega) (by unfold arHigh; omega)⟩
  simp only [Bool.or_eq_false_iff, beq_eq_false_iff_ne, ne_eq] at h31
  refine sem_seq (fun s1 => s1 = AS.on [(2, .i 0), (3, .i 0), (4, .i op), (33, .b (op == 24))] [] 0 35 0 (fun _ => false)) (sem_vc T_ok mixed ?_) ?_
  · repeat' (first | exact True.intro | apply And.intro | (intro h; exact Bool.noConfusion h) | exact ok_op (by kernel_rfl) | exact ok_tr (by kernel_rfl) | intro _ | refine weak_is (weak_on rfl rfl rfl rfl ?_ ?_) rfl | rfl | apply fin_b | refine @Exists.intro Bool _ true ?_ | refine @Exists.intro Way _ .call ?_)
    all_goals first
      | rfl
      | simp_all
  rintro _ rfl
  refine sem_cond rfl (fun h => sem_vc T_ok mixed ?_) fun h33 => ?_
  · simp only [Bool.or_eq_true, beq_iff_eq] at h
    repeat' (first | exact True.intro | apply And.intro | (intro h; exact Bool.noConfusion h) | exact ok_op (by kernel_rfl) | exact ok_tr (by kernel_rfl) | intro _ | refine fin_to (y := .tup [.lf (li _), .lf (li _)]) rfl ?_ | refine @Exists.intro Bool _ true ?_ | refine @Exists.intro Way _ .call ?_)
    exact ⟨ar_eq (by unfold arLow; omega) (by unfold arHigh; omega)⟩
  simp only [Bool.or_eq_false_iff, beq_eq_false_iff_ne, ne_eq] at h33
  refine sem_vc T_ok mixed ?_
  repeat' (first | exact True.intro | apply And.intro | (intro h; exact Bool.noConfusion h) | exact ok_op (by kernel_rfl) | exact ok_tr (by kernel_rfl) | intro _ | refine weak_is (weak_on rfl rfl rfl rfl ?_ ?_) ⟨by unfold arLow; omega, by unfold arHigh; omega, rfl⟩ | rfl | refine @Exists.intro Bool _ true ?_ | refine @Exists.intro Way _ .call ?_)

def zeroVB (vk vi : Int) (vt : ByteArray) : Bool := vk == 0 && (vi == 0 && vt.toList == (⟨#[]⟩ : ByteArray).toList)
def formedB (op n vk vi : Int) (vt s : ByteArray) (len : Int) : Bool :=
  if arLow op < 0 ∨ len < arLow op ∨ len > arHigh op ∨ emptyB s = false then false
  else if op = 1 then n == 0 && validV vk vi vt else if op = 2 then zeroVB vk vi vt
  else if op = 24 then zeroVB vk vi vt && decide (n ≥ 0) && decide (n < 13) else n == 0 && zeroVB vk vi vt
end Go.Proofs.Ytijjagkeaehhbaa.Eng
