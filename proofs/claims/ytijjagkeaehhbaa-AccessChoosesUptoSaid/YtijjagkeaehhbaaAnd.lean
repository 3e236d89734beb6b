/- What the reference's Choose computes: the program's choice. Each function's arguments and the stated bounds are its condition. -/
import Derived.Test.YtijjagkeaehhbaaAnc
set_option linter.unusedSimpArgs false
set_option linter.unusedVariables false
namespace Go.Proofs.Ytijjagkeaehhbaa.Eng
open Go.RowKit (Below)

theorem find_no {cds : List Cd} {col : Int} (h : ∀ (i : Nat) c, cds[i]? = some c → isEq col c = false) : cds.find? (isEq col) = none := by
  rw [List.find?_eq_none]
  intro c hc
  obtain ⟨i, hi⟩ := List.getElem?_of_mem hc
  rw [h i c hi]
  simp
theorem find_yes {cds : List Cd} {col : Int} {j : Nat} {c : Cd} (hj : cds[j]? = some c) (hc : isEq col c = true) (h : ∀ (i : Nat) c, i < j → cds[i]? = some c → isEq col c = false) : cds.find? (isEq col) = some c := by
  obtain ⟨hlt, he⟩ := List.getElem?_eq_some_iff.1 hj
  rw [List.find?_eq_some_iff_getElem]
  refine ⟨hc, j, hlt, he, fun i hi => ?_⟩
  rw [h i _ hi (List.getElem?_eq_getElem (Nat.lt_trans hi hlt))]
  rfl
def eqA (o : Option Cd) : AV := match o with
  | some c => .tup [.agg [li c.k, li c.i, .pv (.str c.t)], .lf (.pv (.bool true))]
  | none => .tup [.agg [li 0, li 0, .pv (.str ⟨#[]⟩)], .lf (.pv (.bool false))]
theorem c_requalC (cds : List Cd) (col : Int) (hl : cds.length ≤ 9223372036854775807) : AFunR Try.prog 50 [.pv (.vs 5 (cds.map Cd.row)), .i col] (fun r => r = eqA (cds.find? (isEq col))) := by
  refine afun_body T_ok mixed Try.func50 rfl (ent_of Try.func50 rfl rfl) (Nat.le_of_ble_eq_true rfl) ?_
  have hlen : (cds.map Cd.row).length = cds.length := List.length_map ..
  repeat' (first | exact True.intro | apply And.intro | (intro h; exact Bool.noConfusion h) | exact ok_op (by kernel_rfl) | exact ok_tr (by kernel_rfl) | intro _ | refine @Exists.intro Bool _ true ?_ | refine @Exists.intro Way _ .call ?_)
  refine ⟨fun m st => ∃ j : Nat, j ≤ cds.length ∧ (∀ (i : Nat) c, i < j → cds[i]? = some c → isEq col c = false) ∧ m = cds.length - j ∧ st = AS.on [(0, .pv (.vs 5 (cds.map Cd.row))), (1, .i col), (4, .lv (.ptr 0 0)), (6, .i j)] [(0, .box 29 [li 0, li 0, .pv (.str ⟨#[]⟩)])] 1 34 0 (fun _ => false), ⟨cds.length, _, ⟨0, Nat.zero_le _, fun i c hi => absurd hi (Nat.not_lt_zero _), rfl, rfl⟩, ?_⟩, ?_⟩
  · refine weak_on rfl rfl rfl rfl ?_ ?_
    · repeat' (first | exact True.intro | apply And.intro | (intro h; exact Bool.noConfusion h) | exact ok_op (by kernel_rfl) | exact ok_tr (by kernel_rfl) | intro _ | rfl | refine @Exists.intro Bool _ true ?_ | refine @Exists.intro Way _ .call ?_)
    · repeat' (first | exact True.intro | apply And.intro | (intro h; exact Bool.noConfusion h) | exact ok_op (by kernel_rfl) | exact ok_tr (by kernel_rfl) | intro _ | rfl | refine Exists.intro _ (And.intro rfl ?_) | refine @Exists.intro Bool _ true ?_ | refine @Exists.intro Way _ .call ?_)
  · rintro m st ⟨j, hj, hall, rfl, rfl⟩
    by_cases hlt : j < cds.length
    · obtain ⟨c, hc⟩ : ∃ c, cds[j]? = some c := ⟨_, List.getElem?_eq_getElem hlt⟩
      have hrow := cdRow_get hc
      have hfind := fun h => find_yes (col := col) hc h hall
      have hstep : isEq col c = false → ∀ (i : Nat) c', i < j + 1 → cds[i]? = some c' → isEq col c' = false := by
        intro hb i c' hi hc'
        rcases Nat.lt_succ_iff_lt_or_eq.1 hi with h | h
        · exact hall i c' h hc'
        · subst h; rw [hc] at hc'; cases hc'; exact hb
      generalize cds.find? (isEq col) = o at hfind ⊢
      obtain ⟨cop, ccl, ck, ci, ct⟩ := c
      have hq : isEq col ⟨cop, ccl, ck, ci, ct⟩ = (cop == 7 && ccl == col) := rfl
      rw [hq] at hfind hstep
      repeat' (first | exact True.intro | apply And.intro | (intro h; exact Bool.noConfusion h) | exact ok_op (by kernel_rfl) | exact ok_tr (by kernel_rfl) | intro _ | refine Exists.intro _ (And.intro (Int.natCast_nonneg j) (And.intro hrow (And.intro rfl ?_))) | refine fin_to (y := .tup [.agg [_, _, _], .lf (.pv (.bool _))]) rfl ?_ | rfl | refine @Exists.intro Bool _ true ?_ | refine @Exists.intro Way _ .call ?_)
      all_goals first
        | (exfalso; have := of_decide_eq_false ‹decide ((j : Int) < (cds.map Cd.row).length) = false›; omega)
        | (rw [hfind (by simp_all)]; exact ⟨rfl⟩)
        | (refine ⟨cds.length - (j + 1), _, by omega, ⟨j + 1, hlt, hstep (by simp_all), rfl, rfl⟩, weak_on rfl rfl rfl rfl ?_ ?_⟩
           · repeat' (first | exact True.intro | apply And.intro | (intro h; exact Bool.noConfusion h) | exact ok_op (by kernel_rfl) | exact ok_tr (by kernel_rfl) | intro _ | rfl | (apply fin_i; rw [wrap_id] <;> omega) | refine @Exists.intro Bool _ true ?_ | refine @Exists.intro Way _ .call ?_)
           · repeat' (first | exact True.intro | apply And.intro | (intro h; exact Bool.noConfusion h) | exact ok_op (by kernel_rfl) | exact ok_tr (by kernel_rfl) | intro _ | rfl | refine Exists.intro _ (And.intro rfl ?_) | refine @Exists.intro Bool _ true ?_ | refine @Exists.intro Way _ .call ?_))
    · have hje : j = cds.length := by omega
      have hno : cds.find? (isEq col) = none := find_no fun i c hc => hall i c (by have := (List.getElem?_eq_some_iff.1 hc).1; omega) hc
      rw [hno]
      repeat' (first | exact True.intro | apply And.intro | (intro h; exact Bool.noConfusion h) | exact ok_op (by kernel_rfl) | exact ok_tr (by kernel_rfl) | intro _ | refine fin_to (y := .tup [.agg [_, _, _], .lf (.pv (.bool _))]) rfl ?_ | rfl | refine @Exists.intro Bool _ true ?_ | refine @Exists.intro Way _ .call ?_)
      all_goals first
        | (exfalso; have := of_decide_eq_true ‹decide ((j : Int) < (cds.map Cd.row).length) = true›; omega)
        | exact ⟨rfl⟩

theorem c_rsystem (k a b : Int) : AFunR Try.prog 51 [.agg [li k, li a, li b]] (fun r => r = per (sysF k a b).1 (sysF k a b).2) := by
  refine afun_body T_ok mixed Try.func51 rfl (ent_of Try.func51 rfl rfl) (Nat.le_of_ble_eq_true rfl) ?_
  repeat' (first | exact True.intro | apply And.intro | (intro h; exact Bool.noConfusion h) | exact ok_op (by kernel_rfl) | exact ok_tr (by kernel_rfl) | intro _ | apply fin_per | refine @Exists.intro Bool _ true ?_ | refine @Exists.intro Way _ .call ?_)
  all_goals (unfold sysF; simp_all)

set_option maxHeartbeats 1000000 in
theorem c_rchoose (nm cols : PV) (ks : List Int) (fo ch : PV) (e : Ex) (k a b d0 d1 : Int) (hf : e.fits) (hs : e.slim) (hb : (conjE e).length ≤ 1099511627776) (hk : ks.length ≤ 1099511627776) :
    AFunR Try.prog 16 [tabA nm cols ks fo ch, .agg (pvs e.row), .agg [li k, li a, li b], per d0 d1] (fun r => r = chooseA (sysF k a b) d0 d1 (pfx (leavesC e) ks)) := by
  have hcond := c_rconditions e hf hb
  have hcl := condsL_le (conjE e)
  rw [conds_leaves e hs, leaves_cd] at hcond hcl
  rw [List.length_map] at hcl
  have hsys := c_rsystem k a b
  have hklen : (keyRows ks).length = ks.length := List.length_map ..
  generalize sysF k a b = s at hsys ⊢
  obtain ⟨s0, s1⟩ := s
  generalize leavesC e = cds at hcond hcl ⊢
  obtain ⟨op, n, vk, vi, vt, s, args⟩ := e
  refine afun_sem T_ok Try.func16 rfl (ent_of Try.func16 rfl rfl) (Nat.le_of_ble_eq_true rfl) ?_
  refine sem_seq (fun st => st = AS.on [(4, .lv (.ptr 0 0)), (5, .lv (.ptr 1 0)), (6, .lv (.ptr 2 0)), (7, .lv (.ptr 3 0)), (8, .lv (.ptr 4 0))] [(0, .box 27 [.pv nm, .pv cols, .pv (.vs 1 (keyRows ks)), .pv fo, .pv ch]), (1, .box 31 (exL op n vk vi vt s (.vs 7 (exRows args)))), (2, .box 33 [li k, li a, li b]), (3, .box 35 [li d0, li d1]), (4, .box 43 [li 0, .pv .nils, li 0, li 0, li 0, li 0])] 5 68 0 (fun _ => false)) (sem_vc T_ok mixed ?_) ?_
  · repeat' (first | exact True.intro | apply And.intro | (intro h; exact Bool.noConfusion h) | exact ok_op (by kernel_rfl) | exact ok_tr (by kernel_rfl) | intro _ | refine weak_is (weak_on rfl rfl rfl rfl ?_ ?_) rfl | rfl | refine Exists.intro _ (And.intro rfl ?_) | refine @Exists.intro Bool _ true ?_ | refine @Exists.intro Way _ .call ?_)
  rintro _ rfl
  refine sem_join T_ok mixed (fun st => st = AS.on [(4, .lv (.ptr 0 0)), (6, .lv (.ptr 2 0)), (7, .lv (.ptr 3 0)), (8, .lv (.ptr 4 0)), (9, .pv (.vs 5 (cds.map Cd.row))), (10, .lv (.sl 5))] [(0, .box 27 [.pv nm, .pv cols, .pv (.vs 1 (keyRows ks)), .pv fo, .pv ch]), (2, .box 33 [li k, li a, li b]), (3, .box 35 [li d0, li d1]), (4, .box 43 [li 0, .pv .nils, li 0, li 0, li 0, li 0]), (5, .row 29 3 [])] 6 68 0 (fun _ => false)) ?_ ?_
  · repeat' (first | exact True.intro | apply And.intro | (intro h; exact Bool.noConfusion h) | exact ok_op (by kernel_rfl) | exact ok_tr (by kernel_rfl) | intro _ | refine callR_of_fun hcond.afun rfl ?_ | refine weak_is (weak_on rfl rfl rfl rfl ?_ ?_) rfl | rfl | refine Exists.intro _ (And.intro rfl ?_) | refine @Exists.intro Bool _ true ?_ | refine @Exists.intro Way _ .call ?_)
  rintro _ rfl
  refine sem_seq (fun st => st = AS.on [(6, .lv (.ptr 2 0)), (7, .lv (.ptr 3 0)), (8, .lv (.ptr 4 0)), (10, .lv (.sl 5))] [(2, .box 33 [li k, li a, li b]), (3, .box 35 [li d0, li d1]), (4, .box 43 [li 0, .pv .nils, li 0, li 0, li 0, li 0]), (5, .row 29 3 (pfx cds ks))] 6 68 0 (fun _ => false)) (sem_vc T_ok mixed ?_) ?_
  · repeat' (first | exact True.intro | apply And.intro | (intro h; exact Bool.noConfusion h) | exact ok_op (by kernel_rfl) | exact ok_tr (by kernel_rfl) | intro _ | rfl | refine @Exists.intro Bool _ true ?_ | refine @Exists.intro Way _ .call ?_)
    refine ⟨fun m st => ∃ (j : Nat) (out : List (List PV)), j ≤ ks.length ∧ out.length = j ∧ out ++ pfx cds (ks.drop j) = pfx cds ks ∧ m = ks.length - j ∧ st = AS.on [(4, .lv (.ptr 0 0)), (6, .lv (.ptr 2 0)), (7, .lv (.ptr 3 0)), (8, .lv (.ptr 4 0)), (9, .pv (.vs 5 (cds.map Cd.row))), (10, .lv (.sl 5)), (11, .i j)] [(0, .box 27 [.pv nm, .pv cols, .pv (.vs 1 (keyRows ks)), .pv fo, .pv ch]), (2, .box 33 [li k, li a, li b]), (3, .box 35 [li d0, li d1]), (4, .box 43 [li 0, .pv .nils, li 0, li 0, li 0, li 0]), (5, .row 29 3 out)] 6 68 0 (fun _ => false), ⟨ks.length, _, ⟨0, [], Nat.zero_le _, rfl, rfl, rfl, rfl⟩, ?_⟩, ?_⟩
    · refine weak_on rfl rfl rfl rfl ?_ ?_
      · repeat' (first | exact True.intro | apply And.intro | (intro h; exact Bool.noConfusion h) | exact ok_op (by kernel_rfl) | exact ok_tr (by kernel_rfl) | intro _ | rfl | refine @Exists.intro Bool _ true ?_ | refine @Exists.intro Way _ .call ?_)
      · repeat' (first | exact True.intro | apply And.intro | (intro h; exact Bool.noConfusion h) | exact ok_op (by kernel_rfl) | exact ok_tr (by kernel_rfl) | intro _ | rfl | refine Exists.intro _ (And.intro rfl ?_) | refine @Exists.intro Bool _ true ?_ | refine @Exists.intro Way _ .call ?_)
    · rintro m st ⟨j, out, hj, ho, heq, rfl, rfl⟩
      by_cases hlt : j < ks.length
      · obtain ⟨kk, hk1⟩ : ∃ k, ks[j]? = some k := ⟨_, List.getElem?_eq_getElem hlt⟩
        have hrow := keyRow_get hk1
        have hix := c_requalC cds kk (by omega)
        rw [drop_get hk1, pfx] at heq
        cases h3 : cds.find? (isEq kk) with
        | none =>
          rw [h3] at hix heq
          rw [List.append_nil] at heq
          rw [← heq]
          repeat' (first | exact True.intro | apply And.intro | (intro h; exact Bool.noConfusion h) | exact ok_op (by kernel_rfl) | exact ok_tr (by kernel_rfl) | intro _ | refine Exists.intro _ (And.intro (Int.natCast_nonneg j) (And.intro hrow (And.intro rfl ?_))) | refine callR_of_fun hix.afun rfl ?_ | refine weak_is (weak_on rfl rfl rfl rfl ?_ ?_) rfl | rfl | refine Exists.intro _ (And.intro rfl ?_) | refine @Exists.intro Bool _ true ?_ | refine @Exists.intro Way _ .call ?_)
          all_goals (exfalso; have := of_decide_eq_false ‹decide ((j : Int) < (keyRows ks).length) = false›; omega)
        | some c =>
          rw [h3] at hix heq
          obtain ⟨cop, ccl, ck, ci, ct⟩ := c
          repeat' (first | exact True.intro | apply And.intro | (intro h; exact Bool.noConfusion h) | exact ok_op (by kernel_rfl) | exact ok_tr (by kernel_rfl) | intro _ | refine Exists.intro _ (And.intro (Int.natCast_nonneg j) (And.intro hrow (And.intro rfl ?_))) | refine callR_of_fun hix.afun rfl ?_ | refine @Exists.intro Bool _ false ?_ | rfl | (simp only [chunk, List.length_cons, List.length_nil, ti29]; omega) | refine @Exists.intro Bool _ true ?_ | refine @Exists.intro Way _ .call ?_)
          all_goals first
            | (exfalso; have := of_decide_eq_false ‹decide ((j : Int) < (keyRows ks).length) = false›; omega)
            | skip
          refine ⟨ks.length - (j + 1), _, by omega, ⟨j + 1, out ++ [[I ck, I ci, .str ct]], hlt, by simp [ho], by rw [← heq]; simp [Cd.val], rfl, rfl⟩, weak_on rfl rfl rfl rfl ?_ ?_⟩
          · repeat' (first | exact True.intro | apply And.intro | (intro h; exact Bool.noConfusion h) | exact ok_op (by kernel_rfl) | exact ok_tr (by kernel_rfl) | intro _ | rfl | (apply fin_i; rw [wrap_id] <;> omega) | refine @Exists.intro Bool _ true ?_ | refine @Exists.intro Way _ .call ?_)
          · repeat' (first | exact True.intro | apply And.intro | (intro h; exact Bool.noConfusion h) | exact ok_op (by kernel_rfl) | exact ok_tr (by kernel_rfl) | intro _ | rfl | refine Exists.intro _ (And.intro rfl ?_) | refine @Exists.intro Bool _ true ?_ | refine @Exists.intro Way _ .call ?_)
      · have hje : j = ks.length := by omega
        rw [hje, List.drop_length, pfx, List.append_nil] at heq
        subst heq
        repeat' (first | exact True.intro | apply And.intro | (intro h; exact Bool.noConfusion h) | exact ok_op (by kernel_rfl) | exact ok_tr (by kernel_rfl) | intro _ | refine weak_is (weak_on rfl rfl rfl rfl ?_ ?_) rfl | rfl | refine Exists.intro _ (And.intro rfl ?_) | refine @Exists.intro Bool _ true ?_ | refine @Exists.intro Way _ .call ?_)
        all_goals (exfalso; have := of_decide_eq_true ‹decide ((j : Int) < (keyRows ks).length) = true›; omega)
  rintro _ rfl
  generalize pfx cds ks = key
  refine sem_vc T_ok mixed ?_
  repeat' (first | exact True.intro | apply And.intro | (intro h; exact Bool.noConfusion h) | exact ok_op (by kernel_rfl) | exact ok_tr (by kernel_rfl) | intro _ | refine callR_of_fun hsys.afun rfl ?_ | refine callR_of_fun (c_rvalid _ _).afun rfl ?_ | refine Exists.intro _ (And.intro (ne_per _ _ _ _ _ _) ?_) | refine fin_to (y := .agg [_, _, _, _, _, _]) rfl ?_ | refine @Exists.intro Bool _ true ?_ | refine @Exists.intro Way _ .call ?_)
  all_goals (refine ⟨?_⟩; clear hsys hcond; unfold chooseA; grind)
end Go.Proofs.Ytijjagkeaehhbaa.Eng
