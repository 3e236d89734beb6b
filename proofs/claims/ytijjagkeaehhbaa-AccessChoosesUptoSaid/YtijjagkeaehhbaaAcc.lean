/- What predicate.Conditions and its helpers compute. Each function's arguments are its condition. -/
import Derived.Test.YtijjagkeaehhbaaAcb
set_option linter.unusedSimpArgs false
set_option linter.unusedVariables false
namespace Go.Proofs.Ytijjagkeaehhbaa.Eng
open Go.RowKit (Below)

/-- An expression. -/
inductive Ex where
  | mk (op n vk vi : Int) (vt s : ByteArray) (args : List Ex)
mutual
def Ex.row : Ex → List PV
  | .mk op n vk vi vt s args => [I op, I n, I vk, I vi, .str vt, .str s, .vs 7 (exRows args)]
def exRows : List Ex → List (List PV)
  | [] => []
  | e :: r => e.row :: exRows r
end
theorem exRows_length : ∀ l : List Ex, (exRows l).length = l.length
  | [] => rfl
  | e :: r => by rw [exRows, List.length_cons, exRows_length r, List.length_cons]
theorem exRows_get : ∀ (l : List Ex) (i : Nat) (e : Ex), l[i]? = some e → (exRows l)[i]? = some e.row
  | [], i, e, h => by simp at h
  | x :: r, 0, e, h => by simp only [List.getElem?_cons_zero, Option.some.injEq] at h; subst h; simp [exRows]
  | x :: r, i + 1, e, h => by rw [exRows, List.getElem?_cons_succ]; exact exRows_get r i e (by simpa using h)

def condE : Ex → AV
  | .mk op n vk vi vt s [.mk o1 n1 k1 i1 t1 s1 q1, .mk o2 n2 k2 i2 t2 s2 q2] => condV op o1 n1 k1 i1 t1 o2 n2 k2 i2 t2
  | _ => noneA
theorem condE_no {op n vk vi : Int} {vt s : ByteArray} {args : List Ex} (h : inSet op = false ∨ args.length ≠ 2) : condE (.mk op n vk vi vt s args) = noneA := by
  unfold condE
  split
  · rcases h with h | h
    · rename_i he
      injection he with he1 he2 he3 he4 he5 he6 he7
      subst he1
      simp [condV, h]
    · rename_i he
      injection he with he1 he2 he3 he4 he5 he6 he7
      subst he7
      simp at h
  · rfl
theorem c_cond (e : Ex) : AFunR Try.prog 115 [.agg (pvs e.row)] (fun r => r = condE e) := by
  obtain ⟨op, n, vk, vi, vt, s, args⟩ := e
  by_cases h : inSet op = false ∨ args.length ≠ 2
  · rw [condE_no h]
    exact c_cond_no op n vk vi vt s (exRows args) (by rw [exRows_length]; exact h)
  · have h1 : inSet op = true := by cases hb : inSet op; exact absurd (.inl hb) h; rfl
    have h2 : args.length = 2 := by rcases Nat.decEq args.length 2 with h3 | h3; exact absurd (.inr h3) h; exact h3
    match args, h2 with
    | [.mk o1 n1 k1 i1 t1 s1 q1, .mk o2 n2 k2 i2 t2 s2 q2], _ => exact c_cond_yes op n vk vi vt s o1 n1 k1 i1 t1 s1 (.vs 7 (exRows q1)) o2 n2 k2 i2 t2 s2 (.vs 7 (exRows q2)) h1

/-- The row of a condition, if there is one. -/
theorem condE_cases (e : Ex) : condE e = noneA ∨ ∃ op n k i t, condE e = someA op n k i t := by
  have core : ∀ op ao an bo bk bi bt, coreV op ao an bo bk bi bt = noneA ∨ ∃ op' n k i t, coreV op ao an bo bk bi bt = someA op' n k i t := by
    intro op ao an bo bk bi bt
    unfold coreV
    split
    · exact .inr ⟨_, _, _, _, _, rfl⟩
    · exact .inl rfl
  unfold condE
  split
  · unfold condV
    split
    · split <;> exact core ..
    · exact .inl rfl
  · exact .inl rfl
def rowOfA : AV → List (List PV)
  | .tup [.agg [.pv a, .pv b, .pv c, .pv d, .pv e], .lf (.pv (.bool true))] => [[a, b, c, d, e]]
  | _ => []
def condsE (e : Ex) : List (List PV) := rowOfA (condE e)
theorem condsE_le (e : Ex) : (condsE e).length ≤ 1 := by
  unfold condsE
  rcases condE_cases e with h | ⟨op, n, k, i, t, h⟩ <;> rw [h] <;> simp [rowOfA, noneA, someA]

def chOne : Nat → Bool := fun i => Nat.beq i 1
abbrev objsC (cs : List (List PV)) : List AObj := [.box 89 [.sl 1], .row 132 5 cs]
theorem fin_objsC {x y : List (List PV)} (h : Fin (x = y)) : objsC x = objsC y := by rw [h.out]
theorem c_add (e : Ex) (cs : List (List PV)) (hb : cs.length ≤ 1099511627776) : CallF Try.prog 114 [.agg (pvs e.row), .lv (.ptr 0 0)] (objsC cs) chOne (fun r objs => objs = objsC (cs ++ condsE e)) := by
  have hc := c_cond e
  unfold condsE
  obtain ⟨op, n, vk, vi, vt, s, args⟩ := e
  refine callF_body T_ok mixed Try.func114 rfl (ent_of Try.func114 rfl rfl) (Nat.le_of_ble_eq_true rfl) ?_
  rcases condE_cases (.mk op n vk vi vt s args) with h | ⟨op', n', k, i, t, h⟩
  · rw [h] at hc ⊢
    repeat' (first | exact True.intro | apply And.intro | (intro h; exact Bool.noConfusion h) | exact ok_op (by kernel_rfl) | exact ok_tr (by kernel_rfl) | intro _ | refine callR_of_fun hc.afun rfl ?_ | refine fin_objsC ?_ | rfl | refine @Exists.intro Bool _ true ?_ | refine @Exists.intro Way _ .call ?_)
    all_goals (refine ⟨?_⟩; simp [rowOfA, noneA])
  · rw [h] at hc ⊢
    repeat' (first | exact True.intro | apply And.intro | (intro h; exact Bool.noConfusion h) | exact ok_op (by kernel_rfl) | exact ok_tr (by kernel_rfl) | intro _ | refine callR_of_fun hc.afun rfl ?_ | refine fin_objsC ?_ | rfl | (simp only [chunk, List.length_cons, List.length_nil, ti132]; omega) | refine @Exists.intro Bool _ true ?_ | refine @Exists.intro Way _ .call ?_)
    all_goals exact ⟨rfl⟩

def andB (op n vk vi : Int) (vt s : ByteArray) (len : Nat) : Bool := op == 5 && decide (2 ≤ len) && n == 0 && emptyB s && (vk == 0 && vi == 0 && emptyB vt)
mutual
def leaves : Ex → List (List PV)
  | .mk op n vk vi vt s args => bif andB op n vk vi vt s args.length then leavesL args else condsE (.mk op n vk vi vt s args)
def leavesL : List Ex → List (List PV)
  | [] => []
  | e :: r => leaves e ++ leavesL r
end
theorem leavesL_take : ∀ (l : List Ex) (j : Nat) (e : Ex), l[j]? = some e → leavesL (l.take (j + 1)) = leavesL (l.take j) ++ leaves e
  | [], j, e, h => by simp at h
  | x :: r, 0, e, h => by simp only [List.getElem?_cons_zero, Option.some.injEq] at h; subst h; simp [leavesL]
  | x :: r, j + 1, e, h => by
    rw [List.take_succ_cons, leavesL, leavesL_take r j e (by simpa using h), List.take_succ_cons, leavesL, List.append_assoc]

mutual
def Ex.fits : Ex → Prop
  | .mk _ _ _ _ _ _ args => args.length ≤ 9223372036854775807 ∧ fitsL args
def fitsL : List Ex → Prop
  | [] => True
  | e :: r => e.fits ∧ fitsL r
end
theorem fitsL_get : ∀ (l : List Ex) (j : Nat) (e : Ex), fitsL l → l[j]? = some e → e.fits
  | [], j, e, _, h => by simp at h
  | x :: r, 0, e, hf, h => by simp only [List.getElem?_cons_zero, Option.some.injEq] at h; subst h; exact hf.1
  | x :: r, j + 1, e, hf, h => fitsL_get r j e hf.2 (by simpa using h)
theorem leavesL_le : ∀ (l : List Ex) (j : Nat), (leavesL (l.take j)).length ≤ (leavesL l).length
  | [], j => by simp [leavesL]
  | x :: r, 0 => by simp [leavesL]
  | x :: r, j + 1 => by rw [List.take_succ_cons, leavesL, leavesL, List.length_append, List.length_append]; have := leavesL_le r j; omega
theorem c_each_n : ∀ (N : Nat) (e : Ex), e.fits → SizeOf.sizeOf e < N → ∀ (cs : List (List PV)), cs.length + (leaves e).length ≤ 1099511627776 →
    CallF Try.prog 113 [.agg (pvs e.row), .lv (.clo 114 [0])] (objsC cs) chOne (fun r objs => objs = objsC (cs ++ leaves e))
  | 0, e, _, hN, cs, hb => absurd hN (Nat.not_lt_zero _)
  | N + 1, .mk op n vk vi vt s args, hfit, hN, cs, hb => by
    have hwide := hfit.1
    have hadd := c_add (.mk op n vk vi vt s args) cs (by omega)
    refine callF_body T_ok mixed Try.func113 rfl (ent_of Try.func113 rfl rfl) (Nat.le_of_ble_eq_true rfl) ?_
    have hlen := exRows_length args
    cases ha : andB op n vk vi vt s args.length with
    | false =>
      have hl : leaves (.mk op n vk vi vt s args) = condsE (.mk op n vk vi vt s args) := by rw [leaves, ha]; rfl
      rw [hl]
      repeat' (first | exact True.intro | apply And.intro | (intro h; exact Bool.noConfusion h) | exact ok_op (by kernel_rfl) | exact ok_tr (by kernel_rfl) | intro _ | refine Exists.intro _ (And.intro (ne_val _ _ _ _ _ _ _ _) ?_) | refine callR_of_frame_eq hadd [0, 1] rfl rfl ?_ rfl ?_ | refine fin_objsC ?_ | rfl | refine @Exists.intro Bool _ true ?_ | refine @Exists.intro Way _ .call ?_)
      all_goals first
        | exact ⟨rfl⟩
        | (exfalso
           simp only [andB, emptyB] at ha
           simp_all
           omega)
    | true =>
      have hl : leaves (.mk op n vk vi vt s args) = leavesL args := by rw [leaves, ha]; rfl
      rw [hl] at hb ⊢
      repeat' (first | exact True.intro | apply And.intro | (intro h; exact Bool.noConfusion h) | exact ok_op (by kernel_rfl) | exact ok_tr (by kernel_rfl) | intro _ | refine Exists.intro _ (And.intro (ne_val _ _ _ _ _ _ _ _) ?_) | refine callR_of_frame_eq hadd [0, 1] rfl rfl ?_ rfl ?_ | refine fin_objsC ?_ | rfl | refine @Exists.intro Bool _ true ?_ | refine @Exists.intro Way _ .call ?_)
      all_goals first
        | (exfalso
           simp only [andB, emptyB] at ha
           clear hadd hl hb hN
           grind)
        | skip
      refine ⟨fun m st => ∃ j : Nat, j ≤ args.length ∧ m = args.length - j ∧ st = AS.on [(1, .lv (.clo 114 [0])), (35, .pv (.vs 7 (exRows args))), (36, .i (exRows args).length), (37, .i j)] [(0, .box 89 [.sl 1]), (1, .row 132 5 (cs ++ leavesL (args.take j)))] 2 45 2 chOne, ⟨args.length, _, ⟨0, Nat.zero_le _, rfl, rfl⟩, ?_⟩, ?_⟩
      · refine weak_on rfl rfl rfl rfl ?_ ?_
        · repeat' (first | exact True.intro | apply And.intro | (intro h; exact Bool.noConfusion h) | exact ok_op (by kernel_rfl) | exact ok_tr (by kernel_rfl) | intro _ | rfl | refine @Exists.intro Bool _ true ?_ | refine @Exists.intro Way _ .call ?_)
        · repeat' (first | exact True.intro | apply And.intro | (intro h; exact Bool.noConfusion h) | exact ok_op (by kernel_rfl) | exact ok_tr (by kernel_rfl) | intro _ | rfl | refine Exists.intro _ (And.intro rfl ?_) | (rw [List.take_zero, leavesL, List.append_nil]; rfl) | refine @Exists.intro Bool _ true ?_ | refine @Exists.intro Way _ .call ?_)
      · rintro m st ⟨j, hj, rfl, rfl⟩
        by_cases hlt : j < args.length
        · obtain ⟨x, hx⟩ : ∃ x, args[j]? = some x := ⟨_, List.getElem?_eq_getElem hlt⟩
          have hrow := exRows_get args j x hx
          have hrow' : (exRows args)[((j : Nat) : Int).toNat]? = some x.row := hrow
          have htk := leavesL_take args j x hx
          have hle := leavesL_le args (j + 1)
          have hsz : SizeOf.sizeOf x < N := by
            have h1 := List.sizeOf_lt_of_mem (List.mem_of_getElem? hx)
            simp only [Ex.mk.sizeOf_spec] at hN
            omega
          rw [htk, List.length_append] at hle
          have ih := c_each_n N x (fitsL_get args j x hfit.2 hx) hsz (cs ++ leavesL (args.take j)) (by rw [List.length_append]; omega)
          rw [List.append_assoc, ← htk] at ih
          obtain ⟨xo, xn, xk, xi, xt, xs, xa⟩ := x
          repeat' (first | exact True.intro | apply And.intro | (intro h; exact Bool.noConfusion h) | exact ok_op (by kernel_rfl) | exact ok_tr (by kernel_rfl) | intro _ | refine Exists.intro _ (And.intro (Int.natCast_nonneg j) (And.intro hrow' (And.intro rfl ?_))) | refine callR_of_frame_eq ih [0, 1] rfl rfl ?_ rfl ?_ | rfl | refine @Exists.intro Bool _ true ?_ | refine @Exists.intro Way _ .call ?_)
          all_goals first
            | (exfalso; have := of_decide_eq_false ‹decide ((j : Int) < (exRows args).length) = false›; omega)
            | skip
          refine ⟨args.length - (j + 1), _, by omega, ⟨j + 1, hlt, rfl, rfl⟩, weak_on rfl rfl rfl rfl ?_ ?_⟩
          · repeat' (first | exact True.intro | apply And.intro | (intro h; exact Bool.noConfusion h) | exact ok_op (by kernel_rfl) | exact ok_tr (by kernel_rfl) | intro _ | rfl | (apply fin_i; rw [wrap_id] <;> omega) | refine @Exists.intro Bool _ true ?_ | refine @Exists.intro Way _ .call ?_)
          · repeat' (first | exact True.intro | apply And.intro | (intro h; exact Bool.noConfusion h) | exact ok_op (by kernel_rfl) | exact ok_tr (by kernel_rfl) | intro _ | rfl | refine Exists.intro _ (And.intro rfl ?_) | refine @Exists.intro Bool _ true ?_ | refine @Exists.intro Way _ .call ?_)
        · have hje : j = args.length := by omega
          repeat' (first | exact True.intro | apply And.intro | (intro h; exact Bool.noConfusion h) | exact ok_op (by kernel_rfl) | exact ok_tr (by kernel_rfl) | intro _ | refine fin_objsC ?_ | rfl | refine @Exists.intro Bool _ true ?_ | refine @Exists.intro Way _ .call ?_)
          all_goals first
            | (exfalso; have := of_decide_eq_true ‹decide ((j : Int) < (exRows args).length) = true›; omega)
            | (refine ⟨?_⟩; rw [hje, List.take_length])

end Go.Proofs.Ytijjagkeaehhbaa.Eng
