/- The reference's conjuncts and conditions of an expression. Each function's arguments and the stated bounds are its condition. -/
import Derived.Test.YtijjagkeaehhbaaAnb
set_option linter.unusedSimpArgs false
set_option linter.unusedVariables false
namespace Go.Proofs.Ytijjagkeaehhbaa.Eng
open Go.RowKit (Below)

mutual
def conjE : Ex → List Ex
  | .mk op n vk vi vt s args => bif op == 5 && formedB op n vk vi vt s args.length then conjL args else [.mk op n vk vi vt s args]
def conjL : List Ex → List Ex
  | [] => []
  | e :: r => conjE e ++ conjL r
end
theorem conjL_take : ∀ (l : List Ex) (j : Nat) (e : Ex), l[j]? = some e → conjL (l.take (j + 1)) = conjL (l.take j) ++ conjE e
  | [], j, e, h => by simp at h
  | x :: r, 0, e, h => by simp only [List.getElem?_cons_zero, Option.some.injEq] at h; subst h; simp [conjL]
  | x :: r, j + 1, e, h => by
    rw [List.take_succ_cons, conjL, conjL_take r j e (by simpa using h), List.take_succ_cons, conjL, List.append_assoc]
theorem conjL_le : ∀ (l : List Ex) (j : Nat), (conjL (l.take j)).length ≤ (conjL l).length
  | [], j => by simp [conjL]
  | x :: r, 0 => by simp [conjL]
  | x :: r, j + 1 => by rw [List.take_succ_cons, conjL, conjL, List.length_append, List.length_append]; have := conjL_le r j; omega
theorem exRows_append : ∀ a b : List Ex, exRows (a ++ b) = exRows a ++ exRows b
  | [], b => rfl
  | e :: a, b => by rw [List.cons_append, exRows, exRows, exRows_append a b, List.cons_append]

theorem c_conj : ∀ (N : Nat) (e : Ex), e.fits → SizeOf.sizeOf e < N → (conjE e).length ≤ 1099511627776 → AFunR Try.prog 88 [.agg (pvs e.row)] (fun r => r = .pv (.vs 7 (exRows (conjE e))))
  | 0, e, _, hN, _ => absurd hN (Nat.not_lt_zero _)
  | N + 1, .mk op n vk vi vt s args, hfit, hN, hb => by
    have hwide := hfit.1
    have hlen := exRows_length args
    have hfm := c_formed op n vk vi vt s (exRows args)
    rw [hlen] at hfm
    cases ha : (op == 5 && formedB op n vk vi vt s args.length) with
    | false =>
      have hl : conjE (.mk op n vk vi vt s args) = [.mk op n vk vi vt s args] := by rw [conjE, ha]; rfl
      rw [hl]
      generalize formedB op n vk vi vt s args.length = fm at hfm ha
      refine afun_body T_ok mixed Try.func88 rfl (ent_of Try.func88 rfl rfl) (Nat.le_of_ble_eq_true rfl) ?_
      repeat' (first | exact True.intro | apply And.intro | (intro h; exact Bool.noConfusion h) | exact ok_op (by kernel_rfl) | exact ok_tr (by kernel_rfl) | intro _ | refine callR_of_fun hfm.afun rfl ?_ | rfl | refine @Exists.intro Bool _ true ?_ | refine @Exists.intro Way _ .call ?_)
      all_goals (exfalso; clear hfm; simp_all; done)
    | true =>
      have hl : conjE (.mk op n vk vi vt s args) = conjL args := by rw [conjE, ha]; rfl
      rw [hl] at hb ⊢
      generalize formedB op n vk vi vt s args.length = fm at hfm ha
      refine afun_body T_ok mixed Try.func88 rfl (ent_of Try.func88 rfl rfl) (Nat.le_of_ble_eq_true rfl) ?_
      repeat' (first | exact True.intro | apply And.intro | (intro h; exact Bool.noConfusion h) | exact ok_op (by kernel_rfl) | exact ok_tr (by kernel_rfl) | intro _ | refine callR_of_fun hfm.afun rfl ?_ | rfl | refine @Exists.intro Bool _ true ?_ | refine @Exists.intro Way _ .call ?_)
      all_goals first
        | (exfalso; clear hfm; simp_all; done)
        | skip
      refine ⟨fun m st => ∃ (j : Nat) (out : List (List PV)), j ≤ args.length ∧ out = exRows (conjL (args.take j)) ∧ m = args.length - j ∧ st = AS.on [(1, .lv (.ptr 0 0)), (3, .lv (.sl 1)), (4, .i j)] [(0, .box 31 (exL op n vk vi vt s (.vs 7 (exRows args)))), (1, .row 31 7 out)] 2 32 0 (fun _ => false), ⟨args.length, _, ⟨0, [], Nat.zero_le _, rfl, rfl, rfl⟩, ?_⟩, ?_⟩
      · refine weak_on rfl rfl rfl rfl ?_ ?_
        · repeat' (first | exact True.intro | apply And.intro | (intro h; exact Bool.noConfusion h) | exact ok_op (by kernel_rfl) | exact ok_tr (by kernel_rfl) | intro _ | rfl | refine @Exists.intro Bool _ true ?_ | refine @Exists.intro Way _ .call ?_)
        · repeat' (first | exact True.intro | apply And.intro | (intro h; exact Bool.noConfusion h) | exact ok_op (by kernel_rfl) | exact ok_tr (by kernel_rfl) | intro _ | rfl | refine Exists.intro _ (And.intro rfl ?_) | refine @Exists.intro Bool _ true ?_ | refine @Exists.intro Way _ .call ?_)
      · rintro m st ⟨j, out, hj, hout, rfl, rfl⟩
        by_cases hlt : j < args.length
        · obtain ⟨x, hx⟩ : ∃ x, args[j]? = some x := ⟨_, List.getElem?_eq_getElem hlt⟩
          have hrow := exRows_get args j x hx
          have hrow' : (exRows args)[((j : Nat) : Int).toNat]? = some x.row := hrow
          have htk := conjL_take args j x hx
          have hle := conjL_le args (j + 1)
          have hsz : SizeOf.sizeOf x < N := by
            have h1 := List.sizeOf_lt_of_mem (List.mem_of_getElem? hx)
            simp only [Ex.mk.sizeOf_spec] at hN
            omega
          rw [htk, List.length_append] at hle
          have ih := c_conj N x (fitsL_get args j x hfit.2 hx) hsz (by omega)
          have hnext : out ++ exRows (conjE x) = exRows (conjL (args.take (j + 1))) := by rw [htk, exRows_append, hout]
          have hol : out.length + (exRows (conjE x)).length ≤ 1099511627776 := by rw [hout, exRows_length, exRows_length]; omega
          generalize exRows (conjE x) = ys at ih hnext hol
          obtain ⟨xo, xn, xk, xi, xt, xs, xa⟩ := x
          repeat' (first | exact True.intro | apply And.intro | (intro h; exact Bool.noConfusion h) | exact ok_op (by kernel_rfl) | exact ok_tr (by kernel_rfl) | intro _ | refine Exists.intro _ (And.intro (Int.natCast_nonneg j) (And.intro hrow' (And.intro rfl ?_))) | refine callR_of_fun ih.afun rfl ?_ | rfl | (simp only [ti31]; omega) | (apply Nat.le_trans hol; decide) | refine @Exists.intro Bool _ true ?_ | refine @Exists.intro Way _ .call ?_)
          all_goals first
            | (exfalso; have := of_decide_eq_false ‹decide ((j : Int) < (exRows args).length) = false›; omega)
            | skip
          refine ⟨args.length - (j + 1), _, by omega, ⟨j + 1, _, hlt, hnext, rfl, rfl⟩, weak_on rfl rfl rfl rfl ?_ ?_⟩
          · repeat' (first | exact True.intro | apply And.intro | (intro h; exact Bool.noConfusion h) | exact ok_op (by kernel_rfl) | exact ok_tr (by kernel_rfl) | intro _ | rfl | (apply fin_i; rw [wrap_id] <;> omega) | refine @Exists.intro Bool _ true ?_ | refine @Exists.intro Way _ .call ?_)
          · repeat' (first | exact True.intro | apply And.intro | (intro h; exact Bool.noConfusion h) | exact ok_op (by kernel_rfl) | exact ok_tr (by kernel_rfl) | intro _ | rfl | refine Exists.intro _ (And.intro rfl ?_) | refine @Exists.intro Bool _ true ?_ | refine @Exists.intro Way _ .call ?_)
        · have hje : j = args.length := by omega
          rw [hje, List.take_length] at hout
          subst hout
          repeat' (first | exact True.intro | apply And.intro | (intro h; exact Bool.noConfusion h) | exact ok_op (by kernel_rfl) | exact ok_tr (by kernel_rfl) | intro _ | rfl | refine @Exists.intro Bool _ true ?_ | refine @Exists.intro Way _ .call ?_)
          all_goals (exfalso; have := of_decide_eq_true ‹decide ((j : Int) < (exRows args).length) = true›; omega)

def condsL : List Ex → List (List PV)
  | [] => []
  | e :: r => condsE e ++ condsL r
theorem condsL_append : ∀ a b : List Ex, condsL (a ++ b) = condsL a ++ condsL b
  | [], b => rfl
  | e :: a, b => by rw [List.cons_append, condsL, condsL, condsL_append a b, List.append_assoc]
theorem condsL_le : ∀ l : List Ex, (condsL l).length ≤ l.length
  | [] => Nat.le_refl _
  | e :: r => by rw [condsL, List.length_append, List.length_cons]; have h1 := condsL_le r; have h2 := condsE_le e; omega
theorem condsL_take : ∀ (l : List Ex) (j : Nat) (e : Ex), l[j]? = some e → condsL (l.take (j + 1)) = condsL (l.take j) ++ condsE e := by
  intro l j e h
  rw [List.take_add_one, h, condsL_append]
  simp [condsL]

theorem c_rconditions (e : Ex) (hf : e.fits) (hb : (conjE e).length ≤ 1099511627776) : AFunR Try.prog 49 [.agg (pvs e.row)] (fun r => r = .pv (.vs 5 (condsL (conjE e)))) := by
  have hcj := c_conj (SizeOf.sizeOf e + 1) e hf (Nat.lt_succ_self _) hb
  generalize conjE e = l at hcj hb ⊢
  obtain ⟨op, n, vk, vi, vt, s, args⟩ := e
  have hlen := exRows_length l
  refine afun_body T_ok mixed Try.func49 rfl (ent_of Try.func49 rfl rfl) (Nat.le_of_ble_eq_true rfl) ?_
  repeat' (first | exact True.intro | apply And.intro | (intro h; exact Bool.noConfusion h) | exact ok_op (by kernel_rfl) | exact ok_tr (by kernel_rfl) | intro _ | refine callR_of_fun hcj.afun rfl ?_ | rfl | refine @Exists.intro Bool _ true ?_ | refine @Exists.intro Way _ .call ?_)
  refine ⟨fun m st => ∃ (j : Nat) (out : List (List PV)), j ≤ l.length ∧ out = condsL (l.take j) ∧ m = l.length - j ∧ st = AS.on [(3, .lv (.sl 1)), (4, .pv (.vs 7 (exRows l))), (5, .i j)] [(1, .row 132 5 out)] 2 31 0 (fun _ => false), ⟨l.length, _, ⟨0, [], Nat.zero_le _, rfl, rfl, rfl⟩, ?_⟩, ?_⟩
  · refine weak_on rfl rfl rfl rfl ?_ ?_
    · repeat' (first | exact True.intro | apply And.intro | (intro h; exact Bool.noConfusion h) | exact ok_op (by kernel_rfl) | exact ok_tr (by kernel_rfl) | intro _ | rfl | refine @Exists.intro Bool _ true ?_ | refine @Exists.intro Way _ .call ?_)
    · repeat' (first | exact True.intro | apply And.intro | (intro h; exact Bool.noConfusion h) | exact ok_op (by kernel_rfl) | exact ok_tr (by kernel_rfl) | intro _ | rfl | refine Exists.intro _ (And.intro rfl ?_) | refine @Exists.intro Bool _ true ?_ | refine @Exists.intro Way _ .call ?_)
  · rintro m st ⟨j, out, hj, hout, rfl, rfl⟩
    by_cases hlt : j < l.length
    · obtain ⟨x, hx⟩ : ∃ x, l[j]? = some x := ⟨_, List.getElem?_eq_getElem hlt⟩
      have hrow := exRows_get l j x hx
      have hrow' : (exRows l)[((j : Nat) : Int).toNat]? = some x.row := hrow
      have htk := condsL_take l j x hx
      have hc := c_rcond x
      have hol : out.length ≤ 1099511627776 := by rw [hout]; have := condsL_le (l.take j); rw [List.length_take] at this; omega
      unfold condsE at htk
      rcases condE_cases x with h | ⟨op', n', k, i, t, h⟩
      · rw [h] at hc htk
        have hnext : out = condsL (l.take (j + 1)) := by rw [htk, hout]; simp [rowOfA, noneA]
        obtain ⟨xo, xn, xk, xi, xt, xs, xa⟩ := x
        repeat' (first | exact True.intro | apply And.intro | (intro h; exact Bool.noConfusion h) | exact ok_op (by kernel_rfl) | exact ok_tr (by kernel_rfl) | intro _ | refine Exists.intro _ (And.intro (Int.natCast_nonneg j) (And.intro hrow' (And.intro rfl ?_))) | refine callR_of_fun hc.afun rfl ?_ | rfl | refine @Exists.intro Bool _ true ?_ | refine @Exists.intro Way _ .call ?_)
        all_goals first
          | (exfalso; have := of_decide_eq_false ‹decide ((j : Int) < (exRows l).length) = false›; omega)
          | skip
        refine ⟨l.length - (j + 1), _, by omega, ⟨j + 1, _, hlt, hnext, rfl, rfl⟩, weak_on rfl rfl rfl rfl ?_ ?_⟩
        · repeat' (first | exact True.intro | apply And.intro | (intro h; exact Bool.noConfusion h) | exact ok_op (by kernel_rfl) | exact ok_tr (by kernel_rfl) | intro _ | rfl | (apply fin_i; rw [wrap_id] <;> omega) | refine @Exists.intro Bool _ true ?_ | refine @Exists.intro Way _ .call ?_)
        · repeat' (first | exact True.intro | apply And.intro | (intro h; exact Bool.noConfusion h) | exact ok_op (by kernel_rfl) | exact ok_tr (by kernel_rfl) | intro _ | rfl | refine Exists.intro _ (And.intro rfl ?_) | refine @Exists.intro Bool _ true ?_ | refine @Exists.intro Way _ .call ?_)
      · rw [h] at hc htk
        have hnext : out ++ [[I op', I n', I k, I i, .str t]] = condsL (l.take (j + 1)) := by rw [htk, hout]; simp [rowOfA, someA]
        obtain ⟨xo, xn, xk, xi, xt, xs, xa⟩ := x
        repeat' (first | exact True.intro | apply And.intro | (intro h; exact Bool.noConfusion h) | exact ok_op (by kernel_rfl) | exact ok_tr (by kernel_rfl) | intro _ | refine Exists.intro _ (And.intro (Int.natCast_nonneg j) (And.intro hrow' (And.intro rfl ?_))) | refine callR_of_fun hc.afun rfl ?_ | refine @Exists.intro Bool _ false ?_ | rfl | (simp only [chunk, List.length_cons, List.length_nil, ti132]; omega) | refine @Exists.intro Bool _ true ?_ | refine @Exists.intro Way _ .call ?_)
        all_goals first
          | (exfalso; have := of_decide_eq_false ‹decide ((j : Int) < (exRows l).length) = false›; omega)
          | skip
        refine ⟨l.length - (j + 1), _, by omega, ⟨j + 1, _, hlt, hnext, rfl, rfl⟩, weak_on rfl rfl rfl rfl ?_ ?_⟩
        · repeat' (first | exact True.intro | apply And.intro | (intro h; exact Bool.noConfusion h) | exact ok_op (by kernel_rfl) | exact ok_tr (by kernel_rfl) | intro _ | rfl | (apply fin_i; rw [wrap_id] <;> omega) | refine @Exists.intro Bool _ true ?_ | refine @Exists.intro Way _ .call ?_)
        · repeat' (first | exact True.intro | apply And.intro | (intro h; exact Bool.noConfusion h) | exact ok_op (by kernel_rfl) | exact ok_tr (by kernel_rfl) | intro _ | rfl | refine Exists.intro _ (And.intro rfl ?_) | refine @Exists.intro Bool _ true ?_ | refine @Exists.intro Way _ .call ?_)
    · have hje : j = l.length := by omega
      rw [hje, List.take_length] at hout
      subst hout
      repeat' (first | exact True.intro | apply And.intro | (intro h; exact Bool.noConfusion h) | exact ok_op (by kernel_rfl) | exact ok_tr (by kernel_rfl) | intro _ | rfl | refine @Exists.intro Bool _ true ?_ | refine @Exists.intro Way _ .call ?_)
      all_goals (exfalso; have := of_decide_eq_true ‹decide ((j : Int) < (exRows l).length) = true›; omega)

/-! the reference's conditions are the program's -/
mutual
def Ex.slim : Ex → Prop
  | .mk _ _ _ _ _ _ args => args.length ≤ 1099511627776 ∧ slimL args
def slimL : List Ex → Prop
  | [] => True
  | e :: r => e.slim ∧ slimL r
end
theorem andB_formed (op n vk vi : Int) (vt s : ByteArray) (len : Nat) (h : len ≤ 1099511627776) : (op == 5 && formedB op n vk vi vt s len) = andB op n vk vi vt s len := by
  unfold andB
  by_cases h5 : op = 5
  · subst h5
    unfold formedB zeroVB emptyB
    have e1 : arLow 5 = 2 := by unfold arLow; decide
    have e2 : arHigh 5 = 1099511627776 := by unfold arHigh; decide
    rw [e1, e2]
    grind
  · have : (op == 5) = false := by rw [beq_eq_false_iff_ne]; exact h5
    rw [this]
    rfl
mutual
theorem conds_leaves : ∀ e : Ex, e.slim → condsL (conjE e) = leaves e
  | .mk op n vk vi vt s args, h => by
    rw [conjE, leaves, andB_formed _ _ _ _ _ _ _ h.1]
    cases andB op n vk vi vt s args.length with
    | true => exact conds_leavesL args h.2
    | false => simp [condsL]
theorem conds_leavesL : ∀ l : List Ex, slimL l → condsL (conjL l) = leavesL l
  | [], _ => rfl
  | e :: r, h => by rw [conjL, condsL_append, leavesL, conds_leaves e h.1, conds_leavesL r h.2]
end
end Go.Proofs.Ytijjagkeaehhbaa.Eng
