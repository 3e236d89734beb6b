/- What value.Valid and predicate.condition compute. Each function's arguments are its condition. -/
import Derived.Test.YtijjagkeaehhbaaAca
set_option linter.unusedSimpArgs false
set_option linter.unusedVariables false
namespace Go.Proofs.Ytijjagkeaehhbaa.Eng
open Go.RowKit (Below)

def byteOk (t : ByteArray) (i : Nat) : Bool := match t[i]? with | some c => !(decide ((c.toNat : Int) < 32) || decide ((c.toNat : Int) > 126)) | none => true
def printB (t : ByteArray) : Bool := (List.range t.size).all (byteOk t)
theorem printB_no {t : ByteArray} {j : Nat} (hj : j < t.size) (h : byteOk t j = false) : printB t = false := by
  rw [printB, Bool.eq_false_iff]
  intro ha
  have := List.all_eq_true.1 ha j (List.mem_range.2 hj)
  rw [h] at this
  cases this
theorem c_printable (t : ByteArray) (ht : t.size ≤ 200) : AFunR Try.prog 144 [.pv (.str t)] (fun r => r = .b (printB t)) := by
  refine afun_body T_ok mixed Try.func144 rfl (ent_of Try.func144 rfl rfl) (Nat.le_of_ble_eq_true rfl) ?_
  repeat' (first | exact True.intro | apply And.intro | (intro h; exact Bool.noConfusion h) | exact ok_op (by kernel_rfl) | exact ok_tr (by kernel_rfl) | intro _ | refine @Exists.intro Bool _ true ?_ | refine @Exists.intro Way _ .call ?_)
  refine ⟨fun m s => ∃ j : Nat, j ≤ t.size ∧ (∀ i, i < j → byteOk t i = true) ∧ m = t.size - j ∧ s = AS.on [(0, .pv (.str t)), (5, .i t.size), (6, .i j)] [] 0 20 0 (fun _ => false), ⟨t.size, _, ⟨0, Nat.zero_le _, fun i hi => absurd hi (Nat.not_lt_zero _), rfl, rfl⟩, ?_⟩, ?_⟩
  · refine weak_on rfl rfl rfl rfl ?_ ?_
    repeat' (first | exact True.intro | apply And.intro | (intro h; exact Bool.noConfusion h) | exact ok_op (by kernel_rfl) | exact ok_tr (by kernel_rfl) | intro _ | rfl | refine @Exists.intro Bool _ true ?_ | refine @Exists.intro Way _ .call ?_)
  · rintro m s ⟨j, hj, hall, rfl, rfl⟩
    by_cases hlt : j < t.size
    · obtain ⟨c, hc⟩ : ∃ c, t[j]? = some c := by
        cases h : t[j]? with
        | some c => exact ⟨c, rfl⟩
        | none => rw [getElem?_pos t j hlt] at h; cases h
      have hc' : t[((j : Nat) : Int).toNat]? = some c := hc
      have hb : byteOk t j = !(decide ((c.toNat : Int) < 32) || decide ((c.toNat : Int) > 126)) := by unfold byteOk; rw [hc]
      repeat' (first | exact True.intro | apply And.intro | (intro h; exact Bool.noConfusion h) | exact ok_op (by kernel_rfl) | exact ok_tr (by kernel_rfl) | intro _ | refine ⟨c, Int.natCast_nonneg j, hc', ?_⟩ | apply fin_b | refine @Exists.intro Bool _ true ?_ | refine @Exists.intro Way _ .call ?_)
      all_goals first
        | (exfalso; have := of_decide_eq_false ‹decide ((j : Int) < t.size) = false›; omega)
        | (refine ⟨t.size - (j + 1), _, by omega, ⟨j + 1, hlt, fun i hi => ?_, rfl, rfl⟩, weak_on rfl rfl rfl rfl ?_ ?_⟩
           · rcases Nat.lt_succ_iff_lt_or_eq.1 hi with h | h
             · exact hall i h
             · subst h; rw [hb]; simp_all
           · repeat' (first | exact True.intro | apply And.intro | (intro h; exact Bool.noConfusion h) | exact ok_op (by kernel_rfl) | exact ok_tr (by kernel_rfl) | intro _ | rfl | (apply fin_i; rw [wrap_id] <;> omega) | refine @Exists.intro Bool _ true ?_ | refine @Exists.intro Way _ .call ?_)
           · repeat' (first | exact True.intro | apply And.intro | (intro h; exact Bool.noConfusion h) | exact ok_op (by kernel_rfl) | exact ok_tr (by kernel_rfl) | intro _ | rfl | refine @Exists.intro Bool _ true ?_ | refine @Exists.intro Way _ .call ?_))
        | (symm; apply printB_no hlt; rw [hb]; simp_all)
    · have hj' : j = t.size := by omega
      subst hj'
      repeat' (first | exact True.intro | apply And.intro | (intro h; exact Bool.noConfusion h) | exact ok_op (by kernel_rfl) | exact ok_tr (by kernel_rfl) | intro _ | apply fin_b | refine @Exists.intro Bool _ true ?_ | refine @Exists.intro Way _ .call ?_)
      all_goals first
        | (exfalso; have := of_decide_eq_true ‹decide ((t.size : Int) < t.size) = true›; omega)
        | (symm; unfold printB; rw [List.all_eq_true]; intro i hi; exact hall i (List.mem_range.1 hi))

def emptyB (t : ByteArray) : Bool := t.toList == (⟨#[]⟩ : ByteArray).toList
def validV (k i : Int) (t : ByteArray) : Bool :=
  if k = 0 then (i == 0) && emptyB t else if k = 1 then emptyB t && decide (i ≥ -1125899906842624) && decide (i ≤ 1125899906842624) else if k = 2 then (i == 0) && decide ((t.size : Int) ≤ 200) && printB t
  else if k = 3 then emptyB t && ((i == 0) || (i == 1)) else false
abbrev valA (k i : Int) (t : ByteArray) : AV := .agg [li k, li i, .pv (.str t)]
theorem c_vvalid (k i : Int) (t : ByteArray) : AFunR Try.prog 137 [valA k i t] (fun r => r = .b (validV k i t)) := by
  refine afun_body T_ok mixed Try.func137 rfl (ent_of Try.func137 rfl rfl) (Nat.le_of_ble_eq_true rfl) ?_
  repeat' (first | exact True.intro | apply And.intro | (intro h; exact Bool.noConfusion h) | exact ok_op (by kernel_rfl) | exact ok_tr (by kernel_rfl) | intro _ | refine callR_of_fun (c_printable t (by have := of_decide_eq_true ‹decide ((t.size : Int) ≤ 200) = true›; omega)).afun rfl ?_ | apply fin_b | refine @Exists.intro Bool _ true ?_ | refine @Exists.intro Way _ .call ?_)
  all_goals (unfold validV emptyB; grind)

def noneA : AV := .tup [.agg [li 0, li 0, li 0, li 0, .pv (.str ⟨#[]⟩)], .lf (.pv (.bool false))]
def someA (op n k i : Int) (t : ByteArray) : AV := .tup [.agg [li op, li n, li k, li i, .pv (.str t)], .lf (.pv (.bool true))]
def inSet (op : Int) : Bool := op == 7 || op == 9 || op == 10 || op == 11 || op == 12
def coreV (op ao an bo bk bi : Int) (bt : ByteArray) : AV := if ao = 2 ∧ bo = 1 ∧ bk ≠ 0 ∧ validV bk bi bt = true then someA op an bk bi bt else noneA
def condV (op o1 n1 k1 i1 : Int) (t1 : ByteArray) (o2 n2 k2 i2 : Int) (t2 : ByteArray) : AV :=
  if inSet op = true then (if o1 = 1 then coreV (mirF op) o2 n2 o1 k1 i1 t1 else coreV op o1 n1 o2 k2 i2 t2) else noneA
theorem c_cond_no (op n vk vi : Int) (vt s : ByteArray) (rows : List (List PV)) (h : inSet op = false ∨ rows.length ≠ 2) :
    AFunR Try.prog 115 [.agg [li op, li n, li vk, li vi, .pv (.str vt), .pv (.str s), .pv (.vs 7 rows)]] (fun r => r = noneA) := by
  refine afun_body T_ok mixed Try.func115 rfl (ent_of Try.func115 rfl rfl) (Nat.le_of_ble_eq_true rfl) ?_
  repeat' (first | exact True.intro | apply And.intro | (intro h; exact Bool.noConfusion h) | exact ok_op (by kernel_rfl) | exact ok_tr (by kernel_rfl) | intro _ | refine fin_to (y := .tup [.agg [_, _, _, _, _], .lf (.pv (.bool _))]) rfl ?_ | refine @Exists.intro Bool _ true ?_ | refine @Exists.intro Way _ .call ?_)
  all_goals first
    | exact ⟨rfl⟩
    | (exfalso; rcases h with h | h
       · simp_all [inSet]
       · simp_all; omega)
abbrev exA (op n vk vi : Int) (vt s : ByteArray) (q : PV) : List PV := [I op, I n, I vk, I vi, .str vt, .str s, q]
theorem weak_is {s s1 : AS} (h : Weak s s1) {Q : AS → Prop} (hq : Q s1) : ∃ s1, Q s1 ∧ Weak s s1 := ⟨s1, hq, h⟩
abbrev exL (op n vk vi : Int) (vt s : ByteArray) (q : PV) : List LV := [li op, li n, li vk, li vi, .pv (.str vt), .pv (.str s), .pv q]
abbrev zC : List LV := [li 0, li 0, li 0, li 0, .pv (.str ⟨#[]⟩)]
theorem c_cond_yes (op n vk vi : Int) (vt s : ByteArray) (o1 n1 k1 i1 : Int) (t1 s1 : ByteArray) (q1 : PV) (o2 n2 k2 i2 : Int) (t2 s2 : ByteArray) (q2 : PV) (h : inSet op = true) :
    AFunR Try.prog 115 [.agg [li op, li n, li vk, li vi, .pv (.str vt), .pv (.str s), .pv (.vs 7 [exA o1 n1 k1 i1 t1 s1 q1, exA o2 n2 k2 i2 t2 s2 q2])]] (fun r => r = condV op o1 n1 k1 i1 t1 o2 n2 k2 i2 t2) := by
  refine afun_sem T_ok Try.func115 rfl (ent_of Try.func115 rfl rfl) (Nat.le_of_ble_eq_true rfl) ?_
  refine sem_join T_ok mixed (fun s1' => s1' = AS.on [(1, .lv (.ptr 0 0)), (2, .lv (.ptr 1 0)), (3, .b false)] [(0, .box 31 (exL op n vk vi vt s (.vs 7 [exA o1 n1 k1 i1 t1 s1 q1, exA o2 n2 k2 i2 t2 s2 q2]))), (1, .box 132 zC)] 2 65 0 (fun _ => false)) ?_ ?_
  · repeat' (first | exact True.intro | apply And.intro | (intro h; exact Bool.noConfusion h) | exact ok_op (by kernel_rfl) | exact ok_tr (by kernel_rfl) | intro _ | refine weak_is (weak_on rfl rfl rfl rfl ?_ ?_) rfl | rfl | refine Exists.intro _ (And.intro rfl ?_) | refine @Exists.intro Bool _ true ?_ | refine @Exists.intro Way _ .call ?_)
    all_goals (exfalso; simp_all [inSet])
  rintro _ rfl
  refine sem_join T_ok mixed (fun s1' => s1' = AS.on [(2, .lv (.ptr 1 0)), (3, .b false), (4, .lv (.ptr 12 0)), (5, .lv (.ptr 13 0)), (6, .i op)] [(1, .box 132 zC), (12, .box 31 (exL o1 n1 k1 i1 t1 s1 q1)), (13, .box 31 (exL o2 n2 k2 i2 t2 s2 q2))] 14 65 0 (fun _ => false)) ?_ ?_
  · repeat' (first | exact True.intro | apply And.intro | (intro h; exact Bool.noConfusion h) | exact ok_op (by kernel_rfl) | exact ok_tr (by kernel_rfl) | intro _ | refine weak_is (weak_on rfl rfl rfl rfl ?_ ?_) rfl | rfl | refine Exists.intro _ (And.intro (by decide) (And.intro rfl (And.intro rfl ?_))) | refine Exists.intro _ (And.intro rfl ?_) | refine @Exists.intro Bool _ true ?_ | refine @Exists.intro Way _ .call ?_)
    all_goals (exfalso; simp_all)
  rintro _ rfl
  refine sem_seq (fun s1' => ∃ o a1 a2 a3 a4 ta sa qa b1 b2 b3 b4 tb sb qb, condV op o1 n1 k1 i1 t1 o2 n2 k2 i2 t2 = coreV o a1 a2 b1 b3 b4 tb ∧ s1' = AS.on [(2, .lv (.ptr 1 0)), (3, .b false), (4, .lv (.ptr 12 0)), (5, .lv (.ptr 13 0)), (6, .i o)] [(1, .box 132 zC), (12, .box 31 (exL a1 a2 a3 a4 ta sa qa)), (13, .box 31 (exL b1 b2 b3 b4 tb sb qb))] 14 65 0 (fun _ => false)) (sem_vc T_ok mixed ?_) ?_
  · by_cases h1 : o1 = 1
    · repeat' (first | exact True.intro | apply And.intro | (intro h; exact Bool.noConfusion h) | exact ok_op (by kernel_rfl) | exact ok_tr (by kernel_rfl) | intro _ | refine Exists.intro _ (And.intro (c_mirrored _).afun (And.intro rfl ?_)) | refine weak_is (weak_on rfl rfl rfl rfl ?_ ?_) ⟨mirF op, o2, n2, k2, i2, t2, s2, q2, o1, n1, k1, i1, t1, s1, q1, by simp [condV, h, h1], rfl⟩ | rfl | refine Exists.intro _ (And.intro rfl ?_) | refine @Exists.intro Bool _ true ?_ | refine @Exists.intro Way _ .call ?_)
      all_goals (exfalso; simp_all; done)
    · repeat' (first | exact True.intro | apply And.intro | (intro h; exact Bool.noConfusion h) | exact ok_op (by kernel_rfl) | exact ok_tr (by kernel_rfl) | intro _ | refine Exists.intro _ (And.intro (c_mirrored _).afun (And.intro rfl ?_)) | refine weak_is (weak_on rfl rfl rfl rfl ?_ ?_) ⟨op, o1, n1, k1, i1, t1, s1, q1, o2, n2, k2, i2, t2, s2, q2, by simp [condV, h, h1], rfl⟩ | rfl | refine Exists.intro _ (And.intro rfl ?_) | refine @Exists.intro Bool _ true ?_ | refine @Exists.intro Way _ .call ?_)
      all_goals (exfalso; simp_all; done)
  rintro _ ⟨o, a1, a2, a3, a4, ta, sa, qa, b1, b2, b3, b4, tb, sb, qb, hq, rfl⟩
  rw [hq]
  refine sem_vc T_ok mixed ?_
  repeat' (first | exact True.intro | apply And.intro | (intro h; exact Bool.noConfusion h) | exact ok_op (by kernel_rfl) | exact ok_tr (by kernel_rfl) | intro _ | refine callR_of_fun (c_vvalid _ _ _).afun rfl ?_ | refine fin_to (y := .tup [.agg [_, _, _, _, _], .lf (.pv (.bool _))]) rfl ?_ | refine @Exists.intro Bool _ true ?_ | refine @Exists.intro Way _ .call ?_)
  all_goals (refine ⟨?_⟩; unfold coreV noneA someA; grind)

end Go.Proofs.Ytijjagkeaehhbaa.Eng
