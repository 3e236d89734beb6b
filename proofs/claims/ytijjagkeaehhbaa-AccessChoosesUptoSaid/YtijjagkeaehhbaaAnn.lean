/- That the reference's check of a foreign key has one answer for each table and foreign key. Each function's arguments and the stated bounds are its condition. -/
import Derived.Test.YtijjagkeaehhbaaAnm
set_option linter.unusedSimpArgs false
set_option linter.unusedVariables false
namespace Go.Proofs.Ytijjagkeaehhbaa.Eng
open Go.RowKit (Below)

structure Fo where
  c : List Int
  n : ByteArray
abbrev foL (f : Fo) : List LV := [.pv (.vs 1 (keyRows f.c)), .pv (.str f.n)]
def Fo.row (f : Fo) : List PV := [.vs 1 (keyRows f.c), .str f.n]
def badFo (cs : List Co) (c : List Int) (i : Nat) : Prop := ∃ k, c[i]? = some k ∧ ((decide (k ≥ 0) && decide (k < (cs.map Co.row).length)) = false ∨ ∃ i', i' < i ∧ c[i']? = some k)
set_option maxHeartbeats 2000000 in
set_option maxRecDepth 20000 in
theorem c_foreignX (nm : PV) (cs : List Co) (key fo ch : PV) (c : List Int) (n : ByteArray) (hc : c.length ≤ 1099511627776) : ∃ r0, AFunR Try.prog 111 [tabC nm cs key fo ch, .agg (foL ⟨c, n⟩)] (fun r => r = .i r0) := by
  have hlen : (keyRows c).length = c.length := List.length_map ..
  obtain ⟨b, hnm⟩ := c_nameX n
  cases b with
  | false =>
    refine ⟨1, ?_⟩
    refine afun_body T_ok mixed Try.func111 rfl (ent_of Try.func111 rfl rfl) (Nat.le_of_ble_eq_true rfl) ?_
    repeat' (first | exact True.intro | apply And.intro | (intro h; exact Bool.noConfusion h) | exact ok_op (by kernel_rfl) | exact ok_tr (by kernel_rfl) | intro _ | refine callR_of_fun hnm.afun rfl ?_ | rfl | refine @Exists.intro Bool _ true ?_ | refine @Exists.intro Way _ .call ?_)
    all_goals (exfalso; exact absurd ‹(!false) = false› (by decide))
  | true =>
    obtain ⟨r0, h1, h2, h3⟩ : ∃ r0 : Int, (c.length = 0 → r0 = 25) ∧ ((∃ i, badFo cs c i) → r0 = 25) ∧ (c.length ≠ 0 → (¬ ∃ i, badFo cs c i) → r0 = 0) := by
      by_cases h0 : c.length = 0
      · exact ⟨25, fun _ => rfl, fun _ => rfl, fun h => absurd h0 h⟩
      · by_cases hb : ∃ i, badFo cs c i
        · exact ⟨25, fun _ => rfl, fun _ => rfl, fun _ h => absurd hb h⟩
        · exact ⟨0, fun h => absurd h h0, fun h => absurd h hb, fun _ _ => rfl⟩
    refine ⟨r0, ?_⟩
    refine afun_body T_ok mixed Try.func111 rfl (ent_of Try.func111 rfl rfl) (Nat.le_of_ble_eq_true rfl) ?_
    repeat' (first | exact True.intro | apply And.intro | (intro h; exact Bool.noConfusion h) | exact ok_op (by kernel_rfl) | exact ok_tr (by kernel_rfl) | intro _ | refine callR_of_fun hnm.afun rfl ?_ | apply fin_i | rfl | refine @Exists.intro Bool _ true ?_ | refine @Exists.intro Way _ .call ?_)
    all_goals first
      | (exfalso; exact absurd ‹(!true) = true› (by decide))
      | (refine (h1 ?_).symm; have := eq_of_beq ‹(((keyRows c).length : Int) == 0) = true›; omega)
      | skip
    have hne : c.length ≠ 0 := by
      have := beq_eq_false_iff_ne.1 ‹(((keyRows c).length : Int) == 0) = false›
      omega
    refine ⟨fun m st => ∃ j : Nat, j ≤ c.length ∧ (∀ i, i < j → ¬ badFo cs c i) ∧ m = c.length - j ∧ st = AS.on [(2, .lv (.ptr 0 0)), (3, .lv (.ptr 1 0)), (5, .i j)] [(0, .box 27 (tabL nm cs key fo ch)), (1, .box 164 (foL ⟨c, n⟩))] 2 46 0 (fun _ => false), ⟨c.length, _, ⟨0, Nat.zero_le _, fun i hi => absurd hi (Nat.not_lt_zero _), rfl, rfl⟩, ?_⟩, ?_⟩
    · refine weak_on rfl rfl rfl rfl ?_ ?_
      · repeat' (first | exact True.intro | apply And.intro | (intro h; exact Bool.noConfusion h) | exact ok_op (by kernel_rfl) | exact ok_tr (by kernel_rfl) | intro _ | rfl | refine @Exists.intro Bool _ true ?_ | refine @Exists.intro Way _ .call ?_)
      · repeat' (first | exact True.intro | apply And.intro | (intro h; exact Bool.noConfusion h) | exact ok_op (by kernel_rfl) | exact ok_tr (by kernel_rfl) | intro _ | rfl | refine Exists.intro _ (And.intro rfl ?_) | refine @Exists.intro Bool _ true ?_ | refine @Exists.intro Way _ .call ?_)
    · rintro m st ⟨j, hj, hall, rfl, rfl⟩
      by_cases hlt : j < c.length
      · obtain ⟨k, hk1⟩ : ∃ k, c[j]? = some k := ⟨_, List.getElem?_eq_getElem hlt⟩
        have hrow := keyRow_get hk1
        have hex := c_exists nm cs key fo ch k
        have hbad : (decide (k ≥ 0) && decide (k < (cs.map Co.row).length)) = false → r0 = 25 := fun h => h2 ⟨j, k, hk1, .inl h⟩
        have hgood : (decide (k ≥ 0) && decide (k < (cs.map Co.row).length)) = true → (∀ i', i' < j → c[i']? ≠ some k) → ¬ badFo cs c j := by
          rintro h h' ⟨k', h3, h4⟩
          rw [hk1] at h3
          cases h3
          rcases h4 with h4 | ⟨i', h5, h6⟩
          · rw [h] at h4; cases h4
          · exact h' i' h5 h6
        have hdup : ∀ i', i' < j → c[i']? = some k → r0 = 25 := fun i' h3 h4 => h2 ⟨j, k, hk1, .inr ⟨i', h3, h4⟩⟩
        clear h1 h2 h3
        generalize (decide (k ≥ 0) && decide (k < (cs.map Co.row).length)) = b at hex hbad hgood
        cases b with
        | false =>
          repeat' (first | exact True.intro | apply And.intro | (intro h; exact Bool.noConfusion h) | exact ok_op (by kernel_rfl) | exact ok_tr (by kernel_rfl) | intro _ | refine Exists.intro _ (And.intro (Int.natCast_nonneg j) (And.intro hrow (And.intro rfl ?_))) | refine Exists.intro _ (And.intro hex.afun (And.intro rfl ?_)) | apply fin_i | rfl | refine @Exists.intro Bool _ true ?_ | refine @Exists.intro Way _ .call ?_)
          all_goals first
            | (exfalso; have := of_decide_eq_false ‹decide ((j : Int) < (keyRows c).length) = false›; omega)
            | (exfalso; exact absurd ‹(!false) = false› (by decide))
            | exact (hbad rfl).symm
        | true =>
          have hg := hgood rfl
          clear hbad hgood
          repeat' (first | exact True.intro | apply And.intro | (intro h; exact Bool.noConfusion h) | exact ok_op (by kernel_rfl) | exact ok_tr (by kernel_rfl) | intro _ | refine Exists.intro _ (And.intro (Int.natCast_nonneg j) (And.intro hrow (And.intro rfl ?_))) | refine Exists.intro _ (And.intro hex.afun (And.intro rfl ?_)) | apply fin_i | rfl | refine @Exists.intro Bool _ true ?_ | refine @Exists.intro Way _ .call ?_)
          all_goals first
            | (exfalso; have := of_decide_eq_false ‹decide ((j : Int) < (keyRows c).length) = false›; omega)
            | (exfalso; exact absurd ‹(!true) = true› (by decide))
            | skip
          refine ⟨fun m st => ∃ k2 : Nat, k2 ≤ j ∧ (∀ i', i' < k2 → c[i']? ≠ some k) ∧ m = j - k2 ∧ st = AS.on [(2, .lv (.ptr 0 0)), (3, .lv (.ptr 1 0)), (5, .i j), (6, .i k2)] [(0, .box 27 (tabL nm cs key fo ch)), (1, .box 164 (foL ⟨c, n⟩))] 2 46 0 (fun _ => false), ⟨j, _, ⟨0, Nat.zero_le _, fun i hi => absurd hi (Nat.not_lt_zero _), rfl, rfl⟩, ?_⟩, ?_⟩
          · refine weak_on rfl rfl rfl rfl ?_ ?_
            · repeat' (first | exact True.intro | apply And.intro | (intro h; exact Bool.noConfusion h) | exact ok_op (by kernel_rfl) | exact ok_tr (by kernel_rfl) | intro _ | rfl | refine @Exists.intro Bool _ true ?_ | refine @Exists.intro Way _ .call ?_)
            · repeat' (first | exact True.intro | apply And.intro | (intro h; exact Bool.noConfusion h) | exact ok_op (by kernel_rfl) | exact ok_tr (by kernel_rfl) | intro _ | rfl | refine Exists.intro _ (And.intro rfl ?_) | refine @Exists.intro Bool _ true ?_ | refine @Exists.intro Way _ .call ?_)
          · rintro m st ⟨k2, hk2, hno, rfl, rfl⟩
            by_cases hlt2 : k2 < j
            · obtain ⟨kk, hkk⟩ : ∃ k, c[k2]? = some k := ⟨_, List.getElem?_eq_getElem (by omega)⟩
              have hrow2 := keyRow_get hkk
              repeat' (first | exact True.intro | apply And.intro | (intro h; exact Bool.noConfusion h) | exact ok_op (by kernel_rfl) | exact ok_tr (by kernel_rfl) | intro _ | refine Exists.intro _ (And.intro (Int.natCast_nonneg k2) (And.intro hrow2 (And.intro rfl ?_))) | refine Exists.intro _ (And.intro (Int.natCast_nonneg j) (And.intro hrow (And.intro rfl ?_))) | apply fin_i | rfl | refine @Exists.intro Bool _ true ?_ | refine @Exists.intro Way _ .call ?_)
              all_goals first
                | (exfalso; have := of_decide_eq_false ‹decide ((k2 : Int) < (j : Int)) = false›; omega)
                | exact (hdup k2 hlt2 (by rw [hkk, eq_of_beq ‹(kk == k) = true›])).symm
                | skip
              refine ⟨j - (k2 + 1), _, by omega, ⟨k2 + 1, hlt2, ?_, rfl, rfl⟩, weak_on rfl rfl rfl rfl ?_ ?_⟩
              · intro i' hi h5
                rcases Nat.lt_succ_iff_lt_or_eq.1 hi with h | h
                · exact hno i' h h5
                · subst h
                  rw [hkk] at h5
                  cases h5
                  exact absurd ‹(k == k) = false› (by simp)
              · repeat' (first | exact True.intro | apply And.intro | (intro h; exact Bool.noConfusion h) | exact ok_op (by kernel_rfl) | exact ok_tr (by kernel_rfl) | intro _ | rfl | (apply fin_i; rw [wrap_id] <;> omega) | refine @Exists.intro Bool _ true ?_ | refine @Exists.intro Way _ .call ?_)
              · repeat' (first | exact True.intro | apply And.intro | (intro h; exact Bool.noConfusion h) | exact ok_op (by kernel_rfl) | exact ok_tr (by kernel_rfl) | intro _ | rfl | refine Exists.intro _ (And.intro rfl ?_) | refine @Exists.intro Bool _ true ?_ | refine @Exists.intro Way _ .call ?_)
            · have hje : k2 = j := by omega
              subst hje
              repeat' (first | exact True.intro | apply And.intro | (intro h; exact Bool.noConfusion h) | exact ok_op (by kernel_rfl) | exact ok_tr (by kernel_rfl) | intro _ | rfl | refine @Exists.intro Bool _ true ?_ | refine @Exists.intro Way _ .call ?_)
              all_goals first
                | (exfalso; have := of_decide_eq_true ‹decide ((k2 : Int) < (k2 : Int)) = true›; omega)
                | skip
              refine ⟨c.length - (k2 + 1), _, by omega, ⟨k2 + 1, hlt, ?_, rfl, rfl⟩, weak_on rfl rfl rfl rfl ?_ ?_⟩
              · intro i hi
                rcases Nat.lt_succ_iff_lt_or_eq.1 hi with h | h
                · exact hall i h
                · subst h
                  exact hg hno
              · repeat' (first | exact True.intro | apply And.intro | (intro h; exact Bool.noConfusion h) | exact ok_op (by kernel_rfl) | exact ok_tr (by kernel_rfl) | intro _ | rfl | (apply fin_i; rw [wrap_id] <;> omega) | refine @Exists.intro Bool _ true ?_ | refine @Exists.intro Way _ .call ?_)
              · repeat' (first | exact True.intro | apply And.intro | (intro h; exact Bool.noConfusion h) | exact ok_op (by kernel_rfl) | exact ok_tr (by kernel_rfl) | intro _ | rfl | refine Exists.intro _ (And.intro rfl ?_) | refine @Exists.intro Bool _ true ?_ | refine @Exists.intro Way _ .call ?_)
      · repeat' (first | exact True.intro | apply And.intro | (intro h; exact Bool.noConfusion h) | exact ok_op (by kernel_rfl) | exact ok_tr (by kernel_rfl) | intro _ | apply fin_i | rfl | refine @Exists.intro Bool _ true ?_ | refine @Exists.intro Way _ .call ?_)
        all_goals first
          | (exfalso; have := of_decide_eq_true ‹decide ((j : Int) < (keyRows c).length) = true›; omega)
          | (refine (h3 hne ?_).symm
             rintro ⟨i, k, h4, h5⟩
             have := (List.getElem?_eq_some_iff.1 h4).1
             exact hall i (by omega) ⟨k, h4, h5⟩)
end Go.Proofs.Ytijjagkeaehhbaa.Eng
