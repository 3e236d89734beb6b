/- Whether an expression is well formed, and the reference's conditions of an expression. Each function's arguments are its condition. -/
import Derived.Test.YtijjagkeaehhbaaAna
set_option linter.unusedSimpArgs false
set_option linter.unusedVariables false
namespace Go.Proofs.Ytijjagkeaehhbaa.Eng
open Go.RowKit (Below)

theorem c_rnull0 : AFunR Try.prog 132 [] (fun r => r = .agg [li 0, li 0, .pv (.str ⟨#[]⟩)]) := c_rnull
set_option maxRecDepth 20000 in
theorem c_formed (op n vk vi : Int) (vt s : ByteArray) (rows : List (List PV)) : AFunR Try.prog 105 [.agg [li op, li n, li vk, li vi, .pv (.str vt), .pv (.str s), .pv (.vs 7 rows)]] (fun r => r = .b (formedB op n vk vi vt s rows.length)) := by
  have har := c_arity op
  have hfb : formedB op n vk vi vt s rows.length = formedB op n vk vi vt s rows.length := rfl
  unfold formedB at hfb ⊢
  clear hfb
  generalize arLow op = lo at har ⊢
  generalize arHigh op = hi at har ⊢
  refine afun_body T_ok mixed Try.func105 rfl (ent_of Try.func105 rfl rfl) (Nat.le_of_ble_eq_true rfl) ?_
  repeat' (first | exact True.intro | apply And.intro | (intro h; exact Bool.noConfusion h) | exact ok_op (by kernel_rfl) | exact ok_tr (by kernel_rfl) | intro _ | refine callR_of_fun har.afun rfl ?_ | refine callR_of_fun (c_rvvalid _ _ _).afun rfl ?_ | refine Exists.intro _ (And.intro c_rnull0.afun (And.intro rfl ?_)) | refine Exists.intro _ (And.intro (eq_val _ _ _ _ _ _ _ _) ?_) | apply fin_b | rfl | refine @Exists.intro Bool _ true ?_ | refine @Exists.intro Way _ .call ?_)
  all_goals (clear har; unfold emptyB zeroVB; grind)

theorem c_rmirrored (k : Int) : AFunR Try.prog 117 [.i k] (fun r => r = .i (mirF k)) := by
  refine afun_body T_ok mixed Try.func117 rfl (ent_of Try.func117 rfl rfl) (Nat.le_of_ble_eq_true rfl) ?_
  repeat' (first | exact True.intro | apply And.intro | (intro h; exact Bool.noConfusion h) | exact ok_op (by kernel_rfl) | exact ok_tr (by kernel_rfl) | intro _ | apply fin_i | refine @Exists.intro Bool _ true ?_ | refine @Exists.intro Way _ .call ?_)
  all_goals (unfold mirF; grind)
def plainB (o k i : Int) (t : ByteArray) : Bool := o == 1 && validV k i t && !(k == 0)
theorem c_plain (o n k i : Int) (t s : ByteArray) (q : PV) : AFunR Try.prog 116 [.agg (exL o n k i t s q)] (fun r => r = .b (plainB o k i t)) := by
  refine afun_body T_ok mixed Try.func116 rfl (ent_of Try.func116 rfl rfl) (Nat.le_of_ble_eq_true rfl) ?_
  repeat' (first | exact True.intro | apply And.intro | (intro h; exact Bool.noConfusion h) | exact ok_op (by kernel_rfl) | exact ok_tr (by kernel_rfl) | intro _ | refine callR_of_fun (c_rvvalid _ _ _).afun rfl ?_ | apply fin_b | refine @Exists.intro Bool _ true ?_ | refine @Exists.intro Way _ .call ?_)
  all_goals (unfold plainB; grind)
theorem condV_ref (op o1 n1 k1 i1 : Int) (t1 : ByteArray) (o2 n2 k2 i2 : Int) (t2 : ByteArray) (h : inSet op = true) : condV op o1 n1 k1 i1 t1 o2 n2 k2 i2 t2 =
    (if (o1 == 2 && plainB o2 k2 i2 t2) = true then someA op n1 k2 i2 t2 else if (o2 == 2 && plainB o1 k1 i1 t1) = true then someA (mirF op) n2 k1 i1 t1 else noneA) := by
  unfold condV coreV plainB
  rw [if_pos h]
  by_cases h1 : o1 = 1
  · subst h1
    simp only [if_true]
    by_cases h2 : o2 = 2 <;> by_cases h3 : k1 = 0 <;> cases h4 : validV k1 i1 t1 <;> simp [h2, h3, h4]
  · rw [if_neg h1]
    by_cases h2 : o1 = 2 <;> by_cases h3 : o2 = 1 <;> by_cases h5 : k2 = 0 <;> cases h4 : validV k2 i2 t2 <;> simp [h1, h2, h3, h4, h5]

theorem c_rcond_no (op n vk vi : Int) (vt s : ByteArray) (rows : List (List PV)) (h : inSet op = false ∨ rows.length ≠ 2) :
    AFunR Try.prog 89 [.agg (exL op n vk vi vt s (.vs 7 rows))] (fun r => r = noneA) := by
  refine afun_sem T_ok Try.func89 rfl (ent_of Try.func89 rfl rfl) (Nat.le_of_ble_eq_true rfl) ?_
  refine sem_join T_ok mixed (fun s1' => s1' = AS.on [(1, .lv (.ptr 0 0)), (2, .lv (.ptr 1 0)), (3, .b false), (4, .b (inSet op))] [(0, .box 31 (exL op n vk vi vt s (.vs 7 rows))), (1, .box 132 zC)] 2 77 0 (fun _ => false)) ?_ ?_
  · repeat' (first | exact True.intro | apply And.intro | (intro h; exact Bool.noConfusion h) | exact ok_op (by kernel_rfl) | exact ok_tr (by kernel_rfl) | intro _ | refine weak_is (weak_on rfl rfl rfl rfl ?_ ?_) rfl | rfl | apply fin_b | refine Exists.intro _ (And.intro rfl ?_) | refine @Exists.intro Bool _ true ?_ | refine @Exists.intro Way _ .call ?_)
    all_goals (unfold inSet; grind)
  rintro _ rfl
  refine sem_vc T_ok mixed ?_
  repeat' (first | exact True.intro | apply And.intro | (intro h; exact Bool.noConfusion h) | exact ok_op (by kernel_rfl) | exact ok_tr (by kernel_rfl) | intro _ | refine fin_to (y := .tup [.agg [_, _, _, _, _], .lf (.pv (.bool _))]) rfl ?_ | rfl | refine @Exists.intro Bool _ true ?_ | refine @Exists.intro Way _ .call ?_)
  all_goals first
    | exact ⟨rfl⟩
    | (exfalso; rcases h with h | h
       · simp_all
       · simp_all; omega)
set_option maxHeartbeats 1000000 in
theorem c_rcond_yes (op n vk vi : Int) (vt s : ByteArray) (o1 n1 k1 i1 : Int) (t1 s1 : ByteArray) (q1 : PV) (o2 n2 k2 i2 : Int) (t2 s2 : ByteArray) (q2 : PV) (h : inSet op = true) :
    AFunR Try.prog 89 [.agg (exL op n vk vi vt s (.vs 7 [exA o1 n1 k1 i1 t1 s1 q1, exA o2 n2 k2 i2 t2 s2 q2]))] (fun r => r = condV op o1 n1 k1 i1 t1 o2 n2 k2 i2 t2) := by
  rw [condV_ref _ _ _ _ _ _ _ _ _ _ _ h]
  have hp1 := c_plain o1 n1 k1 i1 t1 s1 q1
  have hp2 := c_plain o2 n2 k2 i2 t2 s2 q2
  generalize plainB o1 k1 i1 t1 = p1 at hp1 ⊢
  generalize plainB o2 k2 i2 t2 = p2 at hp2 ⊢
  refine afun_sem T_ok Try.func89 rfl (ent_of Try.func89 rfl rfl) (Nat.le_of_ble_eq_true rfl) ?_
  refine sem_join T_ok mixed (fun s1' => s1' = AS.on [(1, .lv (.ptr 0 0)), (2, .lv (.ptr 1 0)), (3, .b false), (4, .b true)] [(0, .box 31 (exL op n vk vi vt s (.vs 7 [exA o1 n1 k1 i1 t1 s1 q1, exA o2 n2 k2 i2 t2 s2 q2]))), (1, .box 132 zC)] 2 77 0 (fun _ => false)) ?_ ?_
  · repeat' (first | exact True.intro | apply And.intro | (intro h; exact Bool.noConfusion h) | exact ok_op (by kernel_rfl) | exact ok_tr (by kernel_rfl) | intro _ | refine weak_is (weak_on rfl rfl rfl rfl ?_ ?_) rfl | rfl | apply fin_b | refine Exists.intro _ (And.intro rfl ?_) | refine @Exists.intro Bool _ true ?_ | refine @Exists.intro Way _ .call ?_)
    all_goals (unfold inSet at h; grind)
  rintro _ rfl
  refine sem_seq (fun s1' => s1' = AS.on [(1, .lv (.ptr 0 0)), (2, .lv (.ptr 1 0)), (3, .b false)] [(0, .box 31 (exL op n vk vi vt s (.vs 7 [exA o1 n1 k1 i1 t1 s1 q1, exA o2 n2 k2 i2 t2 s2 q2]))), (1, .box 132 zC)] 2 77 0 (fun _ => false)) (sem_vc T_ok mixed ?_) ?_
  · repeat' (first | exact True.intro | apply And.intro | (intro h; exact Bool.noConfusion h) | exact ok_op (by kernel_rfl) | exact ok_tr (by kernel_rfl) | intro _ | refine weak_is (weak_on rfl rfl rfl rfl ?_ ?_) rfl | rfl | refine Exists.intro _ (And.intro rfl ?_) | refine @Exists.intro Bool _ true ?_ | refine @Exists.intro Way _ .call ?_)
    all_goals (exfalso; simp_all; done)
  rintro _ rfl
  refine sem_join T_ok mixed (fun s1' => s1' = AS.on [(1, .lv (.ptr 0 0)), (2, .lv (.ptr 1 0)), (3, .b false), (5, .lv (.ptr 2 0)), (6, .lv (.ptr 3 0))] [(0, .box 31 (exL op n vk vi vt s (.vs 7 [exA o1 n1 k1 i1 t1 s1 q1, exA o2 n2 k2 i2 t2 s2 q2]))), (1, .box 132 zC), (2, .box 31 (exL o1 n1 k1 i1 t1 s1 q1)), (3, .box 31 (exL o2 n2 k2 i2 t2 s2 q2))] 4 77 0 (fun _ => false)) ?_ ?_
  · repeat' (first | exact True.intro | apply And.intro | (intro h; exact Bool.noConfusion h) | exact ok_op (by kernel_rfl) | exact ok_tr (by kernel_rfl) | intro _ | refine Exists.intro _ (And.intro (by decide) (And.intro rfl (And.intro rfl ?_))) | refine weak_is (weak_on rfl rfl rfl rfl ?_ ?_) rfl | rfl | refine Exists.intro _ (And.intro rfl ?_) | refine @Exists.intro Bool _ true ?_ | refine @Exists.intro Way _ .call ?_)
  rintro _ rfl
  refine sem_vc T_ok mixed ?_
  repeat' (first | exact True.intro | apply And.intro | (intro h; exact Bool.noConfusion h) | exact ok_op (by kernel_rfl) | exact ok_tr (by kernel_rfl) | intro _ | refine callR_of_fun hp1.afun rfl ?_ | refine callR_of_fun hp2.afun rfl ?_ | refine Exists.intro _ (And.intro (c_rmirrored _).afun (And.intro rfl ?_)) | refine fin_to (y := .tup [.agg [_, _, _, _, _], .lf (.pv (.bool _))]) rfl ?_ | rfl | refine @Exists.intro Bool _ true ?_ | refine @Exists.intro Way _ .call ?_)
  all_goals (refine ⟨?_⟩; clear hp1 hp2 h; unfold noneA someA; grind)
theorem c_rcond (e : Ex) : AFunR Try.prog 89 [.agg (pvs e.row)] (fun r => r = condE e) := by
  obtain ⟨op, n, vk, vi, vt, s, args⟩ := e
  by_cases h : inSet op = false ∨ args.length ≠ 2
  · rw [condE_no h]
    exact c_rcond_no op n vk vi vt s (exRows args) (by rw [exRows_length]; exact h)
  · have h1 : inSet op = true := by cases hb : inSet op; exact absurd (.inl hb) h; rfl
    have h2 : args.length = 2 := by rcases Nat.decEq args.length 2 with h3 | h3; exact absurd (.inr h3) h; exact h3
    match args, h2 with
    | [.mk o1 n1 k1 i1 t1 s1 q1, .mk o2 n2 k2 i2 t2 s2 q2], _ => exact c_rcond_yes op n vk vi vt s o1 n1 k1 i1 t1 s1 (.vs 7 (exRows q1)) o2 n2 k2 i2 t2 s2 (.vs 7 (exRows q2)) h1
end Go.Proofs.Ytijjagkeaehhbaa.Eng
