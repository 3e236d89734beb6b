/- What the reference's depth and check of an expression compute. Each function's arguments and the stated bounds are its condition. -/
import Derived.Test.YtijjagkeaehhbaaAnf
import Derived.Test.YtijjagkeaehhbaaAnc
set_option linter.unusedSimpArgs false
set_option linter.unusedVariables false
namespace Go.Proofs.Ytijjagkeaehhbaa.Eng
open Go.RowKit (Below)

def maxI (a b : Int) : Int := if a < b then b else a
mutual
def depE : Ex → Int
  | .mk op n vk vi vt s args => IntKind.i64.wrap (depL 0 args + 1)
def depL (k : Int) : List Ex → Int
  | [] => k
  | e :: r => depL (maxI k (depE e)) r
end
theorem c_depth : ∀ (N : Nat) (e : Ex), e.fits → SizeOf.sizeOf e < N → AFunR Try.prog 78 [.agg (pvs e.row)] (fun r => r = .i (depE e))
  | 0, e, _, hN => absurd hN (Nat.not_lt_zero _)
  | N + 1, .mk op n vk vi vt s args, hfit, hN => by
    have hwide := hfit.1
    have hlen := exRows_length args
    refine afun_body T_ok mixed Try.func78 rfl (ent_of Try.func78 rfl rfl) (Nat.le_of_ble_eq_true rfl) ?_
    repeat' (first | exact True.intro | apply And.intro | (intro h; exact Bool.noConfusion h) | exact ok_op (by kernel_rfl) | exact ok_tr (by kernel_rfl) | intro _ | rfl | refine @Exists.intro Bool _ true ?_ | refine @Exists.intro Way _ .call ?_)
    refine ⟨fun m st => ∃ (j : Nat) (k : Int), j ≤ args.length ∧ depL k (args.drop j) = depL 0 args ∧ m = args.length - j ∧ st = AS.on [(1, .lv (.ptr 0 0)), (3, .i k), (4, .i j)] [(0, .box 31 (exL op n vk vi vt s (.vs 7 (exRows args))))] 1 22 0 (fun _ => false), ⟨args.length, _, ⟨0, 0, Nat.zero_le _, rfl, rfl, rfl⟩, ?_⟩, ?_⟩
    · refine weak_on rfl rfl rfl rfl ?_ ?_
      · repeat' (first | exact True.intro | apply And.intro | (intro h; exact Bool.noConfusion h) | exact ok_op (by kernel_rfl) | exact ok_tr (by kernel_rfl) | intro _ | rfl | refine @Exists.intro Bool _ true ?_ | refine @Exists.intro Way _ .call ?_)
      · repeat' (first | exact True.intro | apply And.intro | (intro h; exact Bool.noConfusion h) | exact ok_op (by kernel_rfl) | exact ok_tr (by kernel_rfl) | intro _ | rfl | refine Exists.intro _ (And.intro rfl ?_) | refine @Exists.intro Bool _ true ?_ | refine @Exists.intro Way _ .call ?_)
    · rintro m st ⟨j, k, hj, heq, rfl, rfl⟩
      by_cases hlt : j < args.length
      · obtain ⟨x, hx⟩ : ∃ x, args[j]? = some x := ⟨_, List.getElem?_eq_getElem hlt⟩
        have hrow := exRows_get args j x hx
        have hrow' : (exRows args)[((j : Nat) : Int).toNat]? = some x.row := hrow
        have hsz : SizeOf.sizeOf x < N := by
          have h1 := List.sizeOf_lt_of_mem (List.mem_of_getElem? hx)
          simp only [Ex.mk.sizeOf_spec] at hN
          omega
        have ih := c_depth N x (fitsL_get args j x hfit.2 hx) hsz
        rw [drop_get hx, depL] at heq
        generalize depE x = d at ih heq
        obtain ⟨xo, xn, xk, xi, xt, xs, xa⟩ := x
        repeat' (first | exact True.intro | apply And.intro | (intro h; exact Bool.noConfusion h) | exact ok_op (by kernel_rfl) | exact ok_tr (by kernel_rfl) | intro _ | refine Exists.intro _ (And.intro (Int.natCast_nonneg j) (And.intro hrow' (And.intro rfl ?_))) | refine callR_of_fun ih.afun rfl ?_ | rfl | refine @Exists.intro Bool _ true ?_ | refine @Exists.intro Way _ .call ?_)
        all_goals first
          | (exfalso; have := of_decide_eq_false ‹decide ((j : Int) < (exRows args).length) = false›; omega)
          | skip
        refine ⟨args.length - (j + 1), _, by omega, ⟨j + 1, _, hlt, heq, rfl, rfl⟩, weak_on rfl rfl rfl rfl ?_ ?_⟩
        · repeat' (first | exact True.intro | apply And.intro | (intro h; exact Bool.noConfusion h) | exact ok_op (by kernel_rfl) | exact ok_tr (by kernel_rfl) | intro _ | rfl | (apply fin_i; rw [wrap_id] <;> omega) | refine @Exists.intro Bool _ true ?_ | refine @Exists.intro Way _ .call ?_)
        · repeat' (first | exact True.intro | apply And.intro | (intro h; exact Bool.noConfusion h) | exact ok_op (by kernel_rfl) | exact ok_tr (by kernel_rfl) | intro _ | rfl | refine Exists.intro _ (And.intro rfl ?_) | refine @Exists.intro Bool _ true ?_ | refine @Exists.intro Way _ .call ?_)
      · have hje : j = args.length := by omega
        rw [hje, List.drop_length, depL] at heq
        rw [depE, ← heq]
        repeat' (first | exact True.intro | apply And.intro | (intro h; exact Bool.noConfusion h) | exact ok_op (by kernel_rfl) | exact ok_tr (by kernel_rfl) | intro _ | apply fin_i | rfl | refine @Exists.intro Bool _ true ?_ | refine @Exists.intro Way _ .call ?_)
        all_goals first
          | (exfalso; have := of_decide_eq_true ‹decide ((j : Int) < (exRows args).length) = true›; omega)
          | rfl

mutual
/-- The kind of an expression, or the error. -/
def chkE (ks : List Int) : Ex → Int × Int
  | .mk op n vk vi vt s args =>
    if arLow op < 0 then (0, 7) else if formedB op n vk vi vt s args.length = false then (0, 8)
    else if op = 2 ∧ (n < 0 ∨ n ≥ ks.length) then (0, 13)
    else match chkL ks args with
      | .ok l => if (resF op n vk l ks).2 = true then ((resF op n vk l ks).1, 0) else (0, 7)
      | .error f => (0, f)
def chkL (ks : List Int) : List Ex → Except Int (List Int)
  | [] => .ok []
  | e :: r => if (chkE ks e).2 ≠ 0 then .error (chkE ks e).2 else match chkL ks r with
    | .ok l => .ok ((chkE ks e).1 :: l)
    | .error f => .error f
end
def accK (acc : List Int) : Except Int (List Int) → Except Int (List Int)
  | .ok l => .ok (acc ++ l)
  | .error f => .error f
abbrev pairA (r : Int × Int) : AV := .tup [.lf (li r.1), .lf (li r.2)]
theorem pair_eq {r : Int × Int} {a b : Int} (h : r = (a, b)) : AV.tup [.lf (li a), .lf (li b)] = pairA r := by rw [h]
theorem chkL_len (ks : List Int) : ∀ (l : List Ex) (r : List Int), chkL ks l = .ok r → r.length = l.length
  | [], r, h => by rw [chkL] at h; cases h; rfl
  | e :: l, r, h => by
    rw [chkL] at h
    split at h
    · cases h
    · split at h
      · rename_i l' hl
        cases h
        rw [List.length_cons, List.length_cons, chkL_len ks l l' hl]
      · cases h
theorem slimL_get : ∀ (l : List Ex) (j : Nat) (e : Ex), slimL l → l[j]? = some e → e.slim
  | [], j, e, _, h => by simp at h
  | x :: r, 0, e, hf, h => by simp only [List.getElem?_cons_zero, Option.some.injEq] at h; subst h; exact hf.1
  | x :: r, j + 1, e, hf, h => slimL_get r j e hf.2 (by simpa using h)
set_option maxHeartbeats 1000000 in
theorem c_check (ks : List Int) (hks : ks.length ≤ 9223372036854775807) : ∀ (N : Nat) (e : Ex), e.slim → SizeOf.sizeOf e < N → AFunR Try.prog 79 [.agg (pvs e.row), intsA ks] (fun r => r = pairA (chkE ks e))
  | 0, e, _, hN => absurd hN (Nat.not_lt_zero _)
  | N + 1, .mk op n vk vi vt s args, hfit, hN => by
    have hwide := hfit.1
    have hlen := exRows_length args
    have hkl : (keyRows ks).length = ks.length := List.length_map ..
    have har := c_arity op
    have hfm := c_formed op n vk vi vt s (exRows args)
    rw [hlen] at hfm
    have h22 : formedB op n vk vi vt s args.length = true → op = 22 → 1 ≤ args.length := by
      intro h h'
      subst h'
      unfold formedB at h
      have e1 : arLow 22 = 3 := by unfold arLow; decide
      rw [e1] at h
      grind
    have hdef : chkE ks (.mk op n vk vi vt s args) = (if arLow op < 0 then (0, 7) else if formedB op n vk vi vt s args.length = false then (0, 8)
      else if op = 2 ∧ (n < 0 ∨ n ≥ ks.length) then (0, 13) else match chkL ks args with
        | .ok l => if (resF op n vk l ks).2 = true then ((resF op n vk l ks).1, 0) else (0, 7)
        | .error f => (0, f)) := by rw [chkE]
    generalize chkE ks (.mk op n vk vi vt s args) = R at hdef ⊢
    generalize formedB op n vk vi vt s args.length = fm at hfm h22 hdef
    generalize arLow op = lo at har hdef
    generalize arHigh op = hi at har
    refine afun_sem T_ok Try.func79 rfl (ent_of Try.func79 rfl rfl) (Nat.le_of_ble_eq_true rfl) ?_
    refine sem_join T_ok mixed (fun s1 => s1 = AS.on [(1, intsA ks), (2, .lv (.ptr 0 0)), (4, .i 0), (5, .i 0), (6, .i lo)] [(0, .box 31 (exL op n vk vi vt s (.vs 7 (exRows args))))] 1 75 0 (fun _ => false)) ?_ ?_
    · repeat' (first | exact True.intro | apply And.intro | (intro h; exact Bool.noConfusion h) | exact ok_op (by kernel_rfl) | exact ok_tr (by kernel_rfl) | intro _ | refine callR_of_fun har.afun rfl ?_ | refine weak_is (weak_on rfl rfl rfl rfl ?_ ?_) rfl | rfl | refine Exists.intro _ (And.intro rfl ?_) | refine @Exists.intro Bool _ true ?_ | refine @Exists.intro Way _ .call ?_)
    rintro _ rfl
    refine sem_seq (fun s1 => ¬ lo < 0 ∧ s1 = AS.on [(1, intsA ks), (2, .lv (.ptr 0 0)), (4, .i 0), (5, .i 0)] [(0, .box 31 (exL op n vk vi vt s (.vs 7 (exRows args))))] 1 75 0 (fun _ => false)) (sem_vc T_ok mixed ?_) ?_
    · repeat' (first | exact True.intro | apply And.intro | (intro h; exact Bool.noConfusion h) | exact ok_op (by kernel_rfl) | exact ok_tr (by kernel_rfl) | intro _ | refine weak_is (weak_on rfl rfl rfl rfl ?_ ?_) ⟨of_decide_eq_false (by assumption), rfl⟩ | refine fin_to (y := .tup [.lf (li _), .lf (li _)]) rfl ?_ | rfl | refine Exists.intro _ (And.intro rfl ?_) | refine @Exists.intro Bool _ true ?_ | refine @Exists.intro Way _ .call ?_)
      exact ⟨pair_eq (by rw [hdef, if_pos (of_decide_eq_true (by assumption))])⟩
    rintro _ ⟨hlo, rfl⟩
    rw [if_neg hlo] at hdef
    refine sem_seq (fun s1 => fm = true ∧ s1 = AS.on [(1, intsA ks), (2, .lv (.ptr 0 0)), (4, .i 0), (5, .i 0)] [(0, .box 31 (exL op n vk vi vt s (.vs 7 (exRows args))))] 1 75 0 (fun _ => false)) (sem_vc T_ok mixed ?_) ?_
    · repeat' (first | exact True.intro | apply And.intro | (intro h; exact Bool.noConfusion h) | exact ok_op (by kernel_rfl) | exact ok_tr (by kernel_rfl) | intro _ | refine callR_of_fun hfm.afun rfl ?_ | refine weak_is (weak_on rfl rfl rfl rfl ?_ ?_) ⟨?_, rfl⟩ | refine fin_to (y := .tup [.lf (li _), .lf (li _)]) rfl ?_ | rfl | refine Exists.intro _ (And.intro rfl ?_) | refine @Exists.intro Bool _ true ?_ | refine @Exists.intro Way _ .call ?_)
      all_goals (cases fm with
        | true => first
          | rfl
          | exact absurd ‹(!true) = true› (by decide)
        | false => first
          | exact ⟨pair_eq (by rw [hdef]; rfl)⟩
          | exact absurd ‹(!false) = false› (by decide))
    rintro _ ⟨hfm1, rfl⟩
    rw [if_neg (by simp [hfm1])] at hdef
    refine sem_seq (fun s1 => ¬ (op = 2 ∧ (n < 0 ∨ n ≥ ks.length)) ∧ s1 = AS.on [(1, intsA ks), (2, .lv (.ptr 0 0)), (4, .i 0), (5, .i 0)] [(0, .box 31 (exL op n vk vi vt s (.vs 7 (exRows args))))] 1 75 0 (fun _ => false)) (sem_vc T_ok mixed ?_) ?_
    · repeat' (first | exact True.intro | apply And.intro | (intro h; exact Bool.noConfusion h) | exact ok_op (by kernel_rfl) | exact ok_tr (by kernel_rfl) | intro _ | refine weak_is (weak_on rfl rfl rfl rfl ?_ ?_) ⟨?_, rfl⟩ | refine fin_to (y := .tup [.lf (li _), .lf (li _)]) rfl ?_ | rfl | refine Exists.intro _ (And.intro rfl ?_) | refine @Exists.intro Bool _ true ?_ | refine @Exists.intro Way _ .call ?_)
      all_goals first
        | exact ⟨pair_eq (by rw [hdef, if_pos ⟨eq_of_beq ‹(op == 2) = true›, Or.inl (of_decide_eq_true ‹decide (n < 0) = !false›)⟩])⟩
        | exact ⟨pair_eq (by rw [hdef, if_pos ⟨eq_of_beq ‹(op == 2) = true›, Or.inr (by have := of_decide_eq_true ‹decide (n ≥ ((keyRows ks).length : Int)) = true›; rw [hkl] at this; exact this)⟩])⟩
        | (have h1 := of_decide_eq_false ‹decide (n < 0) = false›
           have h2 := of_decide_eq_false ‹decide (n ≥ ((keyRows ks).length : Int)) = false›
           omega)
        | (have h1 := ‹(op == 2) = !true›
           rw [Bool.not_true, beq_eq_false_iff_ne] at h1
           omega)
    rintro _ ⟨hcol, rfl⟩
    rw [if_neg hcol] at hdef
    refine sem_seq (fun s1 => s1 = AS.on [(1, intsA ks), (2, .lv (.ptr 0 0)), (4, .i 0), (5, .i 0), (8, .lv (.sl 1))] [(0, .box 31 (exL op n vk vi vt s (.vs 7 (exRows args)))), (1, .row 3 1 [])] 2 75 0 (fun _ => false)) (sem_vc T_ok mixed ?_) ?_
    · repeat' (first | exact True.intro | apply And.intro | (intro h; exact Bool.noConfusion h) | exact ok_op (by kernel_rfl) | exact ok_tr (by kernel_rfl) | intro _ | refine weak_is (weak_on rfl rfl rfl rfl ?_ ?_) rfl | rfl | refine Exists.intro _ (And.intro rfl ?_) | refine @Exists.intro Bool _ true ?_ | refine @Exists.intro Way _ .call ?_)
    rintro _ rfl
    refine sem_seq (fun s1 => ∃ l, chkL ks args = .ok l ∧ s1 = AS.on [(1, intsA ks), (2, .lv (.ptr 0 0)), (4, .i 0), (5, .i 0), (8, .pv (.vs 1 (keyRows l)))] [(0, .box 31 (exL op n vk vi vt s (.vs 7 (exRows args))))] 2 75 0 (fun _ => false)) (sem_vc T_ok mixed ?_) ?_
    · repeat' (first | exact True.intro | apply And.intro | (intro h; exact Bool.noConfusion h) | exact ok_op (by kernel_rfl) | exact ok_tr (by kernel_rfl) | intro _ | rfl | refine @Exists.intro Bool _ true ?_ | refine @Exists.intro Way _ .call ?_)
      refine ⟨fun m st => ∃ (j : Nat) (acc : List Int) (out : List (List PV)), j ≤ args.length ∧ acc.length = j ∧ out = keyRows acc ∧ accK acc (chkL ks (args.drop j)) = chkL ks args ∧ m = args.length - j ∧ st = AS.on [(1, intsA ks), (2, .lv (.ptr 0 0)), (4, .i 0), (5, .i 0), (8, .lv (.sl 1)), (9, .i j)] [(0, .box 31 (exL op n vk vi vt s (.vs 7 (exRows args)))), (1, .row 3 1 out)] 2 75 0 (fun _ => false), ⟨args.length, _, ⟨0, [], [], Nat.zero_le _, rfl, rfl, by rw [List.drop_zero]; cases chkL ks args <;> rfl, rfl, rfl⟩, ?_⟩, ?_⟩
      · refine weak_on rfl rfl rfl rfl ?_ ?_
        · repeat' (first | exact True.intro | apply And.intro | (intro h; exact Bool.noConfusion h) | exact ok_op (by kernel_rfl) | exact ok_tr (by kernel_rfl) | intro _ | rfl | refine @Exists.intro Bool _ true ?_ | refine @Exists.intro Way _ .call ?_)
        · repeat' (first | exact True.intro | apply And.intro | (intro h; exact Bool.noConfusion h) | exact ok_op (by kernel_rfl) | exact ok_tr (by kernel_rfl) | intro _ | rfl | refine Exists.intro _ (And.intro rfl ?_) | refine @Exists.intro Bool _ true ?_ | refine @Exists.intro Way _ .call ?_)
      · rintro m st ⟨j, acc, out, hj, hal, hout, heq, rfl, rfl⟩
        have hkal : out.length = acc.length := by rw [hout]; exact List.length_map ..
        by_cases hlt : j < args.length
        · obtain ⟨x, hx⟩ : ∃ x, args[j]? = some x := ⟨_, List.getElem?_eq_getElem hlt⟩
          have hrow := exRows_get args j x hx
          have hrow' : (exRows args)[((j : Nat) : Int).toNat]? = some x.row := hrow
          have hsz : SizeOf.sizeOf x < N := by
            have h1 := List.sizeOf_lt_of_mem (List.mem_of_getElem? hx)
            simp only [Ex.mk.sizeOf_spec] at hN
            omega
          have ih := c_check ks hks N x (slimL_get args j x hfit.2 hx) hsz
          rw [drop_get hx, chkL] at heq
          generalize chkE ks x = d at ih heq
          obtain ⟨dk, df⟩ := d
          have hnext : out ++ [[I dk]] = keyRows (acc ++ [dk]) := by rw [hout]; simp
          obtain ⟨xo, xn, xk, xi, xt, xs, xa⟩ := x
          repeat' (first | exact True.intro | apply And.intro | (intro h; exact Bool.noConfusion h) | exact ok_op (by kernel_rfl) | exact ok_tr (by kernel_rfl) | intro _ | refine Exists.intro _ (And.intro (Int.natCast_nonneg j) (And.intro hrow' (And.intro rfl ?_))) | refine callR_of_fun ih.afun rfl ?_ | refine @Exists.intro Bool _ false ?_ | refine fin_to (y := .tup [.lf (li _), .lf (li _)]) rfl ?_ | rfl | (simp only [chunk, List.length_cons, List.length_nil, ti3]; omega) | refine @Exists.intro Bool _ true ?_ | refine @Exists.intro Way _ .call ?_)
          all_goals first
            | (exfalso; have := of_decide_eq_false ‹decide ((j : Int) < (exRows args).length) = false›; omega)
            | (rw [if_pos (bne_iff_ne.1 ‹((dk, df).snd != 0) = true›)] at heq; exact ⟨pair_eq (by rw [hdef, ← heq]; rfl)⟩)
            | skip
          have hz : ¬ (dk, df).snd ≠ 0 := by
            have := ‹((dk, df).snd != 0) = false›
            rw [bne_eq_false_iff_eq] at this
            exact fun h => h this
          rw [if_neg hz] at heq
          refine ⟨args.length - (j + 1), _, by omega, ⟨j + 1, acc ++ [dk], _, hlt, by simp [hal], hnext, ?_, rfl, rfl⟩, ?_⟩
          · rw [← heq]
            cases chkL ks (args.drop (j + 1)) <;> simp [accK]
          · refine weak_on rfl rfl rfl rfl ?_ ?_
            · repeat' (first | exact True.intro | apply And.intro | (intro h; exact Bool.noConfusion h) | exact ok_op (by kernel_rfl) | exact ok_tr (by kernel_rfl) | intro _ | rfl | (apply fin_i; rw [wrap_id] <;> omega) | refine @Exists.intro Bool _ true ?_ | refine @Exists.intro Way _ .call ?_)
            · repeat' (first | exact True.intro | apply And.intro | (intro h; exact Bool.noConfusion h) | exact ok_op (by kernel_rfl) | exact ok_tr (by kernel_rfl) | intro _ | rfl | refine Exists.intro _ (And.intro rfl ?_) | refine @Exists.intro Bool _ true ?_ | refine @Exists.intro Way _ .call ?_)
        · have hje : j = args.length := by omega
          rw [hje, List.drop_length, chkL, accK, List.append_nil] at heq
          subst hout
          repeat' (first | exact True.intro | apply And.intro | (intro h; exact Bool.noConfusion h) | exact ok_op (by kernel_rfl) | exact ok_tr (by kernel_rfl) | intro _ | rfl | refine @Exists.intro Bool _ true ?_ | refine @Exists.intro Way _ .call ?_)
          all_goals first
            | (exfalso; have := of_decide_eq_true ‹decide ((j : Int) < (exRows args).length) = true›; omega)
            | refine weak_is ((weak_frz (d := 8) (id := 1) (t := 3) (sz := 1) (rows := keyRows acc) rfl rfl).trans (weak_on rfl rfl rfl rfl ?_ ?_)) ⟨acc, heq.symm, rfl⟩
          · repeat' (first | exact True.intro | apply And.intro | (intro h; exact Bool.noConfusion h) | exact ok_op (by kernel_rfl) | exact ok_tr (by kernel_rfl) | intro _ | rfl | refine @Exists.intro Bool _ true ?_ | refine @Exists.intro Way _ .call ?_)
          · repeat' (first | exact True.intro | apply And.intro | (intro h; exact Bool.noConfusion h) | exact ok_op (by kernel_rfl) | exact ok_tr (by kernel_rfl) | intro _ | rfl | refine Exists.intro _ (And.intro rfl ?_) | refine @Exists.intro Bool _ true ?_ | refine @Exists.intro Way _ .call ?_)
    rintro _ ⟨l, hl, rfl⟩
    have hll := chkL_len ks args l hl
    rw [hl] at hdef
    replace hdef : R = (if (resF op n vk l ks).2 = true then ((resF op n vk l ks).1, 0) else (0, 7)) := hdef
    have hres := c_result op n vk vi vt s (exRows args) l ks (by omega) (by intro h; omega) (by intro h; have := h22 hfm1 h; omega)
    generalize resF op n vk l ks = rr at hres hdef
    obtain ⟨rk, rb⟩ := rr
    refine sem_vc T_ok mixed ?_
    repeat' (first | exact True.intro | apply And.intro | (intro h; exact Bool.noConfusion h) | exact ok_op (by kernel_rfl) | exact ok_tr (by kernel_rfl) | intro _ | refine callR_of_fun hres.afun rfl ?_ | refine fin_to (y := .tup [.lf (li _), .lf (li _)]) rfl ?_ | rfl | refine @Exists.intro Bool _ true ?_ | refine @Exists.intro Way _ .call ?_)
    all_goals (refine ⟨pair_eq ?_⟩; rw [hdef])
    all_goals (cases rb with
      | true => first
        | rfl
        | exact absurd ‹(!true) = true› (by decide)
      | false => first
        | rfl
        | exact absurd ‹(!false) = false› (by decide))
end Go.Proofs.Ytijjagkeaehhbaa.Eng
