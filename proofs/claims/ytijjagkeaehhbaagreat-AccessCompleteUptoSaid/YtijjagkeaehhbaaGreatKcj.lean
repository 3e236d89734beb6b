/- That the reference's tests of columns and of a key return some number. Each function's arguments and the stated bounds are its condition. And what follows in this text; each statement bears its conditions. -/
import Derived.Test.YtijjagkeaehhbaaGreatKci
/- That the reference's tests of columns and of a key return some number. Each function's arguments and the stated bounds are its condition. -/
set_option linter.unusedSimpArgs false
set_option linter.unusedVariables false
namespace Go.Proofs.YtijjagkeaehhbaaGreat.Eng
open Go.RowKit (Below)

abbrev tabL (nm : PV) (cs : List Co) (key fo ch : PV) : List LV := [.pv nm, .pv (.vs 3 (cs.map Co.row)), .pv key, .pv fo, .pv ch]
theorem c_find (nm : PV) (cs : List Co) (key fo ch : PV) (s : ByteArray) (hc : cs.length ≤ 1099511627776) : AFunR Tryz.prog 98 [tabC nm cs key fo ch, .pv (.str s)] someI := by
  have hlen : (cs.map Co.row).length = cs.length := List.length_map ..
  refine afun_body T_ok mixed Tryz.func98 rfl (ent_of Tryz.func98 rfl rfl) (Nat.le_of_ble_eq_true rfl) ?_
  repeat' (first | exact True.intro | apply And.intro | (intro h; exact Bool.noConfusion h) | exact ok_op (by kernel_rfl) | exact ok_tr (by kernel_rfl) | intro _ | rfl | refine @Exists.intro Bool _ true ?_ | refine @Exists.intro Way _ .call ?_)
  refine ⟨fun m st => ∃ j : Nat, j ≤ cs.length ∧ m = cs.length - j ∧ st = AS.on [(1, .pv (.str s)), (2, .lv (.ptr 0 0)), (5, .i j)] [(0, .box 27 (tabL nm cs key fo ch))] 1 22 0 (fun _ => false), ⟨cs.length, _, ⟨0, Nat.zero_le _, rfl, rfl⟩, ?_⟩, ?_⟩
  · refine weak_on rfl rfl rfl rfl ?_ ?_
    · repeat' (first | exact True.intro | apply And.intro | (intro h; exact Bool.noConfusion h) | exact ok_op (by kernel_rfl) | exact ok_tr (by kernel_rfl) | intro _ | rfl | refine @Exists.intro Bool _ true ?_ | refine @Exists.intro Way _ .call ?_)
    · repeat' (first | exact True.intro | apply And.intro | (intro h; exact Bool.noConfusion h) | exact ok_op (by kernel_rfl) | exact ok_tr (by kernel_rfl) | intro _ | rfl | refine Exists.intro _ (And.intro rfl ?_) | refine @Exists.intro Bool _ true ?_ | refine @Exists.intro Way _ .call ?_)
  · rintro m st ⟨j, hj, rfl, rfl⟩
    by_cases hlt : j < cs.length
    · obtain ⟨c, hc1⟩ : ∃ c, cs[j]? = some c := ⟨_, List.getElem?_eq_getElem hlt⟩
      have hrow := coRow_get hc1
      obtain ⟨cn, ck, cz⟩ := c
      repeat' (first | exact True.intro | apply And.intro | (intro h; exact Bool.noConfusion h) | exact ok_op (by kernel_rfl) | exact ok_tr (by kernel_rfl) | intro _ | refine Exists.intro _ (And.intro (Int.natCast_nonneg j) (And.intro hrow (And.intro rfl ?_))) | exact ⟨_, rfl⟩ | rfl | refine @Exists.intro Bool _ true ?_ | refine @Exists.intro Way _ .call ?_)
      all_goals first
        | (exfalso; have := of_decide_eq_false ‹decide ((j : Int) < (cs.map Co.row).length) = false›; omega)
        | skip
      refine ⟨cs.length - (j + 1), _, by omega, ⟨j + 1, hlt, rfl, rfl⟩, weak_on rfl rfl rfl rfl ?_ ?_⟩
      · repeat' (first | exact True.intro | apply And.intro | (intro h; exact Bool.noConfusion h) | exact ok_op (by kernel_rfl) | exact ok_tr (by kernel_rfl) | intro _ | rfl | (apply fin_i; rw [wrap_id] <;> omega) | refine @Exists.intro Bool _ true ?_ | refine @Exists.intro Way _ .call ?_)
      · repeat' (first | exact True.intro | apply And.intro | (intro h; exact Bool.noConfusion h) | exact ok_op (by kernel_rfl) | exact ok_tr (by kernel_rfl) | intro _ | rfl | refine Exists.intro _ (And.intro rfl ?_) | refine @Exists.intro Bool _ true ?_ | refine @Exists.intro Way _ .call ?_)
    · repeat' (first | exact True.intro | apply And.intro | (intro h; exact Bool.noConfusion h) | exact ok_op (by kernel_rfl) | exact ok_tr (by kernel_rfl) | intro _ | exact ⟨_, rfl⟩ | rfl | refine @Exists.intro Bool _ true ?_ | refine @Exists.intro Way _ .call ?_)
      all_goals (exfalso; have := of_decide_eq_true ‹decide ((j : Int) < (cs.map Co.row).length) = true›; omega)

theorem c_columns (nm : PV) (cs : List Co) (key fo ch : PV) (hc : cs.length ≤ 1099511627776) : AFunR Tryz.prog 50 [tabC nm cs key fo ch] someI := by
  have hlen : (cs.map Co.row).length = cs.length := List.length_map ..
  refine afun_body T_ok mixed Tryz.func50 rfl (ent_of Tryz.func50 rfl rfl) (Nat.le_of_ble_eq_true rfl) ?_
  repeat' (first | exact True.intro | apply And.intro | (intro h; exact Bool.noConfusion h) | exact ok_op (by kernel_rfl) | exact ok_tr (by kernel_rfl) | intro _ | exact ⟨_, rfl⟩ | rfl | refine @Exists.intro Bool _ true ?_ | refine @Exists.intro Way _ .call ?_)
  all_goals refine ⟨fun m st => ∃ j : Nat, j ≤ cs.length ∧ m = cs.length - j ∧ st = AS.on [(1, .lv (.ptr 0 0)), (3, .i j)] [(0, .box 27 (tabL nm cs key fo ch))] 1 45 0 (fun _ => false), ⟨cs.length, _, ⟨0, Nat.zero_le _, rfl, rfl⟩, ?_⟩, ?_⟩
  · refine weak_on rfl rfl rfl rfl ?_ ?_
    · repeat' (first | exact True.intro | apply And.intro | (intro h; exact Bool.noConfusion h) | exact ok_op (by kernel_rfl) | exact ok_tr (by kernel_rfl) | intro _ | rfl | refine @Exists.intro Bool _ true ?_ | refine @Exists.intro Way _ .call ?_)
    · repeat' (first | exact True.intro | apply And.intro | (intro h; exact Bool.noConfusion h) | exact ok_op (by kernel_rfl) | exact ok_tr (by kernel_rfl) | intro _ | rfl | refine Exists.intro _ (And.intro rfl ?_) | refine @Exists.intro Bool _ true ?_ | refine @Exists.intro Way _ .call ?_)
  · rintro m st ⟨j, hj, rfl, rfl⟩
    by_cases hlt : j < cs.length
    · obtain ⟨c, hc1⟩ : ∃ c, cs[j]? = some c := ⟨_, List.getElem?_eq_getElem hlt⟩
      have hrow := coRow_get hc1
      obtain ⟨cn, ck, cz⟩ := c
      repeat' (first | exact True.intro | apply And.intro | (intro h; exact Bool.noConfusion h) | exact ok_op (by kernel_rfl) | exact ok_tr (by kernel_rfl) | intro _ | refine Exists.intro _ (And.intro (Int.natCast_nonneg j) (And.intro hrow (And.intro rfl ?_))) | refine callR_of_funR (c_name cn) rfl ?_ | exact ⟨_, rfl⟩ | rfl | refine @Exists.intro Bool _ true ?_ | refine @Exists.intro Way _ .call ?_)
      all_goals first
        | (exfalso; have := of_decide_eq_false ‹decide ((j : Int) < (cs.map Co.row).length) = false›; omega)
        | skip
      rename_i r hr
      obtain ⟨b, rfl⟩ := hr
      repeat' (first | exact True.intro | apply And.intro | (intro h; exact Bool.noConfusion h) | exact ok_op (by kernel_rfl) | exact ok_tr (by kernel_rfl) | intro _ | refine callR_of_funR (c_find nm cs key fo ch cn hc) rfl ?_ | exact ⟨_, rfl⟩ | rfl | refine @Exists.intro Bool _ true ?_ | refine @Exists.intro Way _ .call ?_)
      all_goals
        rename_i r hr
        obtain ⟨b, rfl⟩ := hr
      all_goals repeat' (first | exact True.intro | apply And.intro | (intro h; exact Bool.noConfusion h) | exact ok_op (by kernel_rfl) | exact ok_tr (by kernel_rfl) | intro _ | exact ⟨_, rfl⟩ | rfl | refine @Exists.intro Bool _ true ?_ | refine @Exists.intro Way _ .call ?_)
      all_goals
        refine ⟨cs.length - (j + 1), _, by omega, ⟨j + 1, hlt, rfl, rfl⟩, weak_on rfl rfl rfl rfl ?_ ?_⟩
        · repeat' (first | exact True.intro | apply And.intro | (intro h; exact Bool.noConfusion h) | exact ok_op (by kernel_rfl) | exact ok_tr (by kernel_rfl) | intro _ | rfl | (apply fin_i; rw [wrap_id] <;> omega) | refine @Exists.intro Bool _ true ?_ | refine @Exists.intro Way _ .call ?_)
        · repeat' (first | exact True.intro | apply And.intro | (intro h; exact Bool.noConfusion h) | exact ok_op (by kernel_rfl) | exact ok_tr (by kernel_rfl) | intro _ | rfl | refine Exists.intro _ (And.intro rfl ?_) | refine @Exists.intro Bool _ true ?_ | refine @Exists.intro Way _ .call ?_)
    · repeat' (first | exact True.intro | apply And.intro | (intro h; exact Bool.noConfusion h) | exact ok_op (by kernel_rfl) | exact ok_tr (by kernel_rfl) | intro _ | exact ⟨_, rfl⟩ | rfl | refine @Exists.intro Bool _ true ?_ | refine @Exists.intro Way _ .call ?_)
      all_goals (exfalso; have := of_decide_eq_true ‹decide ((j : Int) < (cs.map Co.row).length) = true›; omega)
end Go.Proofs.YtijjagkeaehhbaaGreat.Eng

/- That the reference's tests of a key and of a foreign key return some number. Each function's arguments and the stated bounds are its condition. -/
set_option linter.unusedSimpArgs false
set_option linter.unusedVariables false
namespace Go.Proofs.YtijjagkeaehhbaaGreat.Eng
open Go.RowKit (Below)

theorem col_get {cs : List Co} {k : Int} (h0 : 0 ≤ k) (h1 : k < (cs.map Co.row).length) : ∃ n kd z, (cs.map Co.row)[k.toNat]? = some [.str n, I kd, .bool z] := by
  rw [List.length_map] at h1
  have hlt : k.toNat < cs.length := by omega
  exact ⟨cs[k.toNat].n, cs[k.toNat].k, cs[k.toNat].z, by rw [List.getElem?_map, List.getElem?_eq_getElem hlt]; rfl⟩
theorem key_prev {ks : List Int} {j : Nat} (h0 : 0 < j) (h1 : j < ks.length) (hm : ks.length ≤ 1099511627776) : 0 ≤ IntKind.i64.wrap ((j : Int) - 1) ∧ ∃ k, (keyRows ks)[(IntKind.i64.wrap ((j : Int) - 1)).toNat]? = some [I k] := by
  rw [wrap_id (by omega) (by omega)]
  have hlt : ((j : Int) - 1).toNat < ks.length := by omega
  exact ⟨by omega, ks[((j : Int) - 1).toNat], by rw [List.getElem?_map, List.getElem?_eq_getElem hlt]; rfl⟩
attribute [local irreducible] IntKind.wrap
set_option maxHeartbeats 1000000 in
set_option maxRecDepth 20000 in
theorem c_keyT (nm : PV) (cs : List Co) (ks : List Int) (fo ch : PV) (hk : ks.length ≤ 1099511627776) : AFunR Tryz.prog 51 [tabC nm cs (.vs 1 (keyRows ks)) fo ch] someI := by
  have hlen : (keyRows ks).length = ks.length := List.length_map ..
  refine afun_body T_ok mixed Tryz.func51 rfl (ent_of Tryz.func51 rfl rfl) (Nat.le_of_ble_eq_true rfl) ?_
  repeat' (first | exact True.intro | apply And.intro | (intro h; exact Bool.noConfusion h) | exact ok_op (by kernel_rfl) | exact ok_tr (by kernel_rfl) | intro _ | exact ⟨_, rfl⟩ | rfl | refine @Exists.intro Bool _ true ?_ | refine @Exists.intro Way _ .call ?_)
  refine ⟨fun m st => ∃ j : Nat, j ≤ ks.length ∧ m = ks.length - j ∧ st = AS.on [(1, .lv (.ptr 0 0)), (3, .i j)] [(0, .box 27 (tabL nm cs (.vs 1 (keyRows ks)) fo ch))] 1 51 0 (fun _ => false), ⟨ks.length, _, ⟨0, Nat.zero_le _, rfl, rfl⟩, ?_⟩, ?_⟩
  · refine weak_on rfl rfl rfl rfl ?_ ?_
    · repeat' (first | exact True.intro | apply And.intro | (intro h; exact Bool.noConfusion h) | exact ok_op (by kernel_rfl) | exact ok_tr (by kernel_rfl) | intro _ | rfl | refine @Exists.intro Bool _ true ?_ | refine @Exists.intro Way _ .call ?_)
    · repeat' (first | exact True.intro | apply And.intro | (intro h; exact Bool.noConfusion h) | exact ok_op (by kernel_rfl) | exact ok_tr (by kernel_rfl) | intro _ | rfl | refine Exists.intro _ (And.intro rfl ?_) | refine @Exists.intro Bool _ true ?_ | refine @Exists.intro Way _ .call ?_)
  · rintro m st ⟨j, hj, rfl, rfl⟩
    by_cases hlt : j < ks.length
    · obtain ⟨k, hk1⟩ : ∃ k, ks[j]? = some k := ⟨_, List.getElem?_eq_getElem hlt⟩
      have hrow := keyRow_get hk1
      have hex := c_exists nm cs (.vs 1 (keyRows ks)) fo ch k
      generalize hb : (decide (k ≥ 0) && decide (k < (cs.map Co.row).length)) = b at hex
      cases b with
      | false =>
        repeat' (first | exact True.intro | apply And.intro | (intro h; exact Bool.noConfusion h) | exact ok_op (by kernel_rfl) | exact ok_tr (by kernel_rfl) | intro _ | refine Exists.intro _ (And.intro (Int.natCast_nonneg j) (And.intro hrow (And.intro rfl ?_))) | refine Exists.intro _ (And.intro hex.afun (And.intro rfl ?_)) | exact ⟨_, rfl⟩ | rfl | refine @Exists.intro Bool _ true ?_ | refine @Exists.intro Way _ .call ?_)
        all_goals first
          | (exfalso; have := of_decide_eq_false ‹decide ((j : Int) < (keyRows ks).length) = false›; omega)
          | (exfalso; exact absurd ‹(!false) = false› (by decide))
          | (exfalso; exact absurd ‹(!false) = !true› (by decide))
      | true =>
        rw [Bool.and_eq_true, decide_eq_true_eq, decide_eq_true_eq] at hb
        obtain ⟨cn, ckd, cz, hcol⟩ := col_get hb.1 hb.2
        by_cases hj0 : j = 0
        · subst hj0
          repeat' (first | exact True.intro | apply And.intro | (intro h; exact Bool.noConfusion h) | exact ok_op (by kernel_rfl) | exact ok_tr (by kernel_rfl) | intro _ | refine Exists.intro _ (And.intro (Int.natCast_nonneg 0) (And.intro hrow (And.intro rfl ?_))) | refine Exists.intro _ (And.intro hb.1 (And.intro hcol (And.intro rfl ?_))) | refine Exists.intro _ (And.intro hex.afun (And.intro rfl ?_)) | exact ⟨_, rfl⟩ | rfl | refine @Exists.intro Bool _ true ?_ | refine @Exists.intro Way _ .call ?_)
          all_goals first
            | (exfalso; have := of_decide_eq_false ‹decide (((0 : Nat) : Int) < (keyRows ks).length) = false›; omega)
            | (exfalso; have := of_decide_eq_true ‹decide (((0 : Nat) : Int) > 0) = true›; omega)
            | skip
          all_goals
            refine ⟨ks.length - (0 + 1), _, by omega, ⟨0 + 1, hlt, rfl, rfl⟩, weak_on rfl rfl rfl rfl ?_ ?_⟩
            · repeat' (first | exact True.intro | apply And.intro | (intro h; exact Bool.noConfusion h) | exact ok_op (by kernel_rfl) | exact ok_tr (by kernel_rfl) | intro _ | rfl | (apply fin_i; rw [wrap_id] <;> omega) | refine @Exists.intro Bool _ true ?_ | refine @Exists.intro Way _ .call ?_)
            · repeat' (first | exact True.intro | apply And.intro | (intro h; exact Bool.noConfusion h) | exact ok_op (by kernel_rfl) | exact ok_tr (by kernel_rfl) | intro _ | rfl | refine Exists.intro _ (And.intro rfl ?_) | refine @Exists.intro Bool _ true ?_ | refine @Exists.intro Way _ .call ?_)
        · obtain ⟨hp0, kp, hprev⟩ := key_prev (Nat.pos_of_ne_zero hj0) hlt hk
          repeat' (first | exact True.intro | apply And.intro | (intro h; exact Bool.noConfusion h) | exact ok_op (by kernel_rfl) | exact ok_tr (by kernel_rfl) | intro _ | refine Exists.intro _ (And.intro (Int.natCast_nonneg j) (And.intro hrow (And.intro rfl ?_))) | refine Exists.intro _ (And.intro hp0 (And.intro hprev (And.intro rfl ?_))) | refine Exists.intro _ (And.intro hb.1 (And.intro hcol (And.intro rfl ?_))) | refine Exists.intro _ (And.intro hex.afun (And.intro rfl ?_)) | exact ⟨_, rfl⟩ | rfl | refine @Exists.intro Bool _ true ?_ | refine @Exists.intro Way _ .call ?_)
          all_goals first
            | (exfalso; have := of_decide_eq_false ‹decide ((j : Int) < (keyRows ks).length) = false›; omega)
            | skip
          all_goals
            refine ⟨ks.length - (j + 1), _, by omega, ⟨j + 1, hlt, rfl, rfl⟩, weak_on rfl rfl rfl rfl ?_ ?_⟩
            · repeat' (first | exact True.intro | apply And.intro | (intro h; exact Bool.noConfusion h) | exact ok_op (by kernel_rfl) | exact ok_tr (by kernel_rfl) | intro _ | rfl | (apply fin_i; rw [wrap_id] <;> omega) | refine @Exists.intro Bool _ true ?_ | refine @Exists.intro Way _ .call ?_)
            · repeat' (first | exact True.intro | apply And.intro | (intro h; exact Bool.noConfusion h) | exact ok_op (by kernel_rfl) | exact ok_tr (by kernel_rfl) | intro _ | rfl | refine Exists.intro _ (And.intro rfl ?_) | refine @Exists.intro Bool _ true ?_ | refine @Exists.intro Way _ .call ?_)
    · repeat' (first | exact True.intro | apply And.intro | (intro h; exact Bool.noConfusion h) | exact ok_op (by kernel_rfl) | exact ok_tr (by kernel_rfl) | intro _ | exact ⟨_, rfl⟩ | rfl | refine @Exists.intro Bool _ true ?_ | refine @Exists.intro Way _ .call ?_)
      all_goals (exfalso; have := of_decide_eq_true ‹decide ((j : Int) < (keyRows ks).length) = true›; omega)
end Go.Proofs.YtijjagkeaehhbaaGreat.Eng

/- The reference's list of words, exactly. No condition. -/
set_option linter.unusedSimpArgs false
set_option linter.unusedVariables false
namespace Go.Proofs.YtijjagkeaehhbaaGreat.Eng
open Go.RowKit (Below)
set_option maxRecDepth 20000 in
theorem words_ex : ∃ rows, AFunR Tryz.prog 97 [] (fun r => r = .pv (.vs 1 rows)) ∧ rows.all isStr = true ∧ Nat.ble rows.length 1000 = true := by
  refine Exists.intro ?w (And.intro ?a (And.intro ?b ?c))
  case a =>
    refine afun_body T_ok mixed Tryz.func97 rfl (ent_of Tryz.func97 rfl rfl) (Nat.le_of_ble_eq_true rfl) ?_
    repeat' (first | exact True.intro | apply And.intro | (intro h; exact Bool.noConfusion h) | exact ok_op (by kernel_rfl) | exact ok_tr (by kernel_rfl) | intro _ | exact rfl | refine @Exists.intro Bool _ true ?_ | refine @Exists.intro Way _ .call ?_)
  case b => exact rfl
  case c => exact rfl
def eqW (s : ByteArray) : List PV → Bool
  | [.str w] => w.toList == s.toList
  | _ => false
def inL (s : ByteArray) : List (List PV) → Bool
  | [] => false
  | r :: l => if eqW s r = true then true else inL s l
theorem c_inX (rows : List (List PV)) (s : ByteArray) (hr : rows.all isStr = true) (hl : rows.length ≤ 1000) : AFunR Tryz.prog 96 [.pv (.vs 1 rows), .pv (.str s)] (fun r => r = .b (inL s rows)) := by
  refine afun_body T_ok mixed Tryz.func96 rfl (ent_of Tryz.func96 rfl rfl) (Nat.le_of_ble_eq_true rfl) ?_
  repeat' (first | exact True.intro | apply And.intro | (intro h; exact Bool.noConfusion h) | exact ok_op (by kernel_rfl) | exact ok_tr (by kernel_rfl) | intro _ | rfl | refine @Exists.intro Bool _ true ?_ | refine @Exists.intro Way _ .call ?_)
  refine ⟨fun m st => ∃ j : Nat, j ≤ rows.length ∧ inL s (rows.drop j) = inL s rows ∧ m = rows.length - j ∧ st = AS.on [(0, .pv (.vs 1 rows)), (1, .pv (.str s)), (5, .i j)] [] 0 18 0 (fun _ => false), ⟨rows.length, _, ⟨0, Nat.zero_le _, rfl, rfl, rfl⟩, ?_⟩, ?_⟩
  · refine weak_on rfl rfl rfl rfl ?_ ?_
    repeat' (first | exact True.intro | apply And.intro | (intro h; exact Bool.noConfusion h) | exact ok_op (by kernel_rfl) | exact ok_tr (by kernel_rfl) | intro _ | rfl | refine @Exists.intro Bool _ true ?_ | refine @Exists.intro Way _ .call ?_)
  · rintro m st ⟨j, hj, heq, rfl, rfl⟩
    by_cases hlt : j < rows.length
    · obtain ⟨w, hrow⟩ := isStr_get hr hlt
      have hrow2 : rows[j]? = some [.str w] := hrow
      rw [drop_get hrow2, inL] at heq
      repeat' (first | exact True.intro | apply And.intro | (intro h; exact Bool.noConfusion h) | exact ok_op (by kernel_rfl) | exact ok_tr (by kernel_rfl) | intro _ | refine Exists.intro _ (And.intro (Int.natCast_nonneg j) (And.intro hrow (And.intro rfl ?_))) | apply fin_b | rfl | refine @Exists.intro Bool _ true ?_ | refine @Exists.intro Way _ .call ?_)
      all_goals first
        | (exfalso; have := of_decide_eq_false ‹decide ((j : Int) < rows.length) = false›; omega)
        | (rw [if_pos (show eqW s [.str w] = true from ‹(w.toList == s.toList) = true›)] at heq; exact heq)
        | skip
      rw [if_neg (show ¬ eqW s [.str w] = true from by have h := ‹(w.toList == s.toList) = false›; show ¬ (w.toList == s.toList) = true; rw [h]; decide)] at heq
      refine ⟨rows.length - (j + 1), _, by omega, ⟨j + 1, hlt, heq, rfl, rfl⟩, weak_on rfl rfl rfl rfl ?_ ?_⟩
      · repeat' (first | exact True.intro | apply And.intro | (intro h; exact Bool.noConfusion h) | exact ok_op (by kernel_rfl) | exact ok_tr (by kernel_rfl) | intro _ | rfl | (apply fin_i; rw [wrap_id] <;> omega) | refine @Exists.intro Bool _ true ?_ | refine @Exists.intro Way _ .call ?_)
      · repeat' (first | exact True.intro | apply And.intro | (intro h; exact Bool.noConfusion h) | exact ok_op (by kernel_rfl) | exact ok_tr (by kernel_rfl) | intro _ | rfl | refine @Exists.intro Bool _ true ?_ | refine @Exists.intro Way _ .call ?_)
    · have hje : j = rows.length := by omega
      rw [hje, List.drop_length, inL] at heq
      repeat' (first | exact True.intro | apply And.intro | (intro h; exact Bool.noConfusion h) | exact ok_op (by kernel_rfl) | exact ok_tr (by kernel_rfl) | intro _ | apply fin_b | rfl | refine @Exists.intro Bool _ true ?_ | refine @Exists.intro Way _ .call ?_)
      all_goals first
        | (exfalso; have := of_decide_eq_true ‹decide ((j : Int) < rows.length) = true›; omega)
        | exact heq
end Go.Proofs.YtijjagkeaehhbaaGreat.Eng

/- That the reference's test of a name has one answer for each string. Each function's arguments and the stated bounds are its condition. -/
set_option linter.unusedSimpArgs false
set_option linter.unusedVariables false
namespace Go.Proofs.YtijjagkeaehhbaaGreat.Eng
open Go.RowKit (Below)

def okC (c : UInt8) : Prop := ((c.toNat : Int) ≥ 97 ∧ (c.toNat : Int) ≤ 122) ∨ ((c.toNat : Int) ≥ 48 ∧ (c.toNat : Int) ≤ 57) ∨ (c.toNat : Int) = 95
def badName (t : ByteArray) : Prop := t.size = 0 ∨ (t.toList == (⟨#[]⟩ : ByteArray).toList) = true ∨ t.size > 24 ∨ (∃ c, t[((0 : Nat) : Int).toNat]? = some c ∧ (c.toNat : Int) ≥ 48 ∧ (c.toNat : Int) ≤ 57) ∨ ∃ (j : Nat) (c : UInt8), t[((j : Nat) : Int).toNat]? = some c ∧ ¬ okC c
set_option maxHeartbeats 1000000 in
theorem c_nameX (t : ByteArray) : ∃ b, AFunR Tryz.prog 49 [.pv (.str t)] (fun r => r = .b b) := by
  obtain ⟨rows, hw, hr1, hr2⟩ := words_ex
  have hin := c_inX rows t hr1 (Nat.le_of_ble_eq_true hr2)
  obtain ⟨b, hb1, hb2⟩ : ∃ b : Bool, (badName t → b = false) ∧ (¬ badName t → b = !(inL t rows)) := by
    by_cases h : badName t
    · exact ⟨false, fun _ => rfl, fun h2 => absurd h h2⟩
    · exact ⟨_, fun h2 => absurd h2 h, fun _ => rfl⟩
  refine ⟨b, ?_⟩
  generalize inL t rows = q at hin hb2
  refine afun_body T_ok mixed Tryz.func49 rfl (ent_of Tryz.func49 rfl rfl) (Nat.le_of_ble_eq_true rfl) ?_
  by_cases h0 : t.size = 0
  · have he := toList_empty t h0
    repeat' (first | exact True.intro | apply And.intro | (intro h; exact Bool.noConfusion h) | exact ok_op (by kernel_rfl) | exact ok_tr (by kernel_rfl) | intro _ | apply fin_b | rfl | refine @Exists.intro Bool _ true ?_ | refine @Exists.intro Way _ .call ?_)
    all_goals first
      | exact (hb1 (.inl h0)).symm
      | (exfalso; rw [he] at *; exact absurd ‹true = false› (by decide))
  · obtain ⟨c0, hc0⟩ := byte_at t 0 (by omega)
    repeat' (first | exact True.intro | apply And.intro | (intro h; exact Bool.noConfusion h) | exact ok_op (by kernel_rfl) | exact ok_tr (by kernel_rfl) | intro _ | refine Exists.intro c0 (And.intro (by decide) (And.intro hc0 ?_)) | apply fin_b | rfl | refine @Exists.intro Bool _ true ?_ | refine @Exists.intro Way _ .call ?_)
    all_goals first
      | (refine (hb1 ?_).symm; first
          | exact .inr (.inl ‹(t.toList == (⟨#[]⟩ : ByteArray).toList) = !false›)
          | exact .inr (.inl ‹(t.toList == (⟨#[]⟩ : ByteArray).toList) = true›)
          | exact .inr (.inr (.inl (by have := of_decide_eq_true ‹decide ((t.size : Int) > 24) = true›; omega)))
          | exact .inr (.inr (.inl (by have := of_decide_eq_true ‹decide ((t.size : Int) > 24) = !false›; omega)))
          | exact .inr (.inr (.inr (.inl ⟨c0, hc0, of_decide_eq_true ‹decide ((c0.toNat : Int) ≥ 48) = true›, of_decide_eq_true ‹decide ((c0.toNat : Int) ≤ 57) = true›⟩))))
      | skip
    all_goals
      have ht : t.size ≤ 24 := by have := of_decide_eq_false ‹decide ((t.size : Int) > 24) = false›; omega
      have hd : ¬ ((c0.toNat : Int) ≥ 48 ∧ (c0.toNat : Int) ≤ 57) := by first
        | (have := of_decide_eq_false ‹decide ((c0.toNat : Int) ≥ 48) = false›; omega)
        | (have := of_decide_eq_false ‹decide ((c0.toNat : Int) ≤ 57) = false›; omega)
      refine ⟨fun m st => ∃ j : Nat, j ≤ t.size ∧ (∀ (i : Nat) (c : UInt8), i < j → t[((i : Nat) : Int).toNat]? = some c → okC c) ∧ m = t.size - j ∧ st = AS.on [(0, .pv (.str t)), (3, .i j)] [] 0 54 0 (fun _ => false), ⟨t.size, _, ⟨0, Nat.zero_le _, fun i c hi => absurd hi (Nat.not_lt_zero _), rfl, rfl⟩, ?_⟩, ?_⟩
    all_goals first
      | (refine weak_on rfl rfl rfl rfl ?_ ?_
         repeat' (first | exact True.intro | apply And.intro | (intro h; exact Bool.noConfusion h) | exact ok_op (by kernel_rfl) | exact ok_tr (by kernel_rfl) | intro _ | rfl | refine @Exists.intro Bool _ true ?_ | refine @Exists.intro Way _ .call ?_))
      | (rintro m st ⟨j, hj, hall, rfl, rfl⟩
         by_cases hlt : j < t.size
         · obtain ⟨c, hc⟩ := byte_at t j hlt
           repeat' (first | exact True.intro | apply And.intro | (intro h; exact Bool.noConfusion h) | exact ok_op (by kernel_rfl) | exact ok_tr (by kernel_rfl) | intro _ | refine Exists.intro c (And.intro (Int.natCast_nonneg j) (And.intro hc ?_)) | apply fin_b | rfl | refine @Exists.intro Bool _ true ?_ | refine @Exists.intro Way _ .call ?_)
           all_goals first
             | (exfalso; have := of_decide_eq_false ‹decide ((j : Int) < t.size) = false›; omega)
             | (refine (hb1 (.inr (.inr (.inr (.inr ⟨j, c, hc, ?_⟩))))).symm; clear hb1 hb2 hin hw hall hc hc0 hr1 hr2 h0 hd ht; unfold okC; generalize (c.toNat : Int) = x at *; generalize t.toList = tl at *; simp at *; omega)
             | skip
           all_goals
             have hok : okC c := by clear hb1 hb2 hin hw hall hc hc0 hr1 hr2 h0 hd ht; unfold okC; generalize (c.toNat : Int) = x at *; generalize t.toList = tl at *; simp at *; omega
             refine ⟨t.size - (j + 1), _, by omega, ⟨j + 1, hlt, ?_, rfl, rfl⟩, weak_on rfl rfl rfl rfl ?_ ?_⟩
             · intro i c' hi hc'
               rcases Nat.lt_succ_iff_lt_or_eq.1 hi with h | h
               · exact hall i c' h hc'
               · subst h; rw [hc] at hc'; cases hc'; exact hok
             · repeat' (first | exact True.intro | apply And.intro | (intro h; exact Bool.noConfusion h) | exact ok_op (by kernel_rfl) | exact ok_tr (by kernel_rfl) | intro _ | rfl | (apply fin_i; rw [wrap_id] <;> omega) | refine @Exists.intro Bool _ true ?_ | refine @Exists.intro Way _ .call ?_)
             · repeat' (first | exact True.intro | apply And.intro | (intro h; exact Bool.noConfusion h) | exact ok_op (by kernel_rfl) | exact ok_tr (by kernel_rfl) | intro _ | rfl | refine @Exists.intro Bool _ true ?_ | refine @Exists.intro Way _ .call ?_)
         · have hnb : ¬ badName t := by
             rintro (h | h | h | ⟨c, h1, h2⟩ | ⟨i, c, h1, h2⟩)
             · exact h0 h
             · have h3 := ‹(t.toList == (⟨#[]⟩ : ByteArray).toList) = false›; rw [h] at h3; cases h3
             · omega
             · rw [hc0] at h1; cases h1; exact hd h2
             · have hi : i < t.size := by
                 rcases Nat.lt_or_ge i t.size with h | h
                 · exact h
                 · have : t[((i : Nat) : Int).toNat]? = none := getElem?_neg t i (by omega)
                   rw [this] at h1; cases h1
               exact h2 (hall i c (by omega) h1)
           repeat' (first | exact True.intro | apply And.intro | (intro h; exact Bool.noConfusion h) | exact ok_op (by kernel_rfl) | exact ok_tr (by kernel_rfl) | intro _ | refine callR_of_funR hw rfl ?_ | rfl | refine @Exists.intro Bool _ true ?_ | refine @Exists.intro Way _ .call ?_)
           all_goals first
             | (exfalso; have := of_decide_eq_true ‹decide ((j : Int) < t.size) = true›; omega)
             | skip
           rename_i r hr
           subst hr
           repeat' (first | exact True.intro | apply And.intro | (intro h; exact Bool.noConfusion h) | exact ok_op (by kernel_rfl) | exact ok_tr (by kernel_rfl) | intro _ | refine callR_of_funR hin rfl ?_ | rfl | refine @Exists.intro Bool _ true ?_ | refine @Exists.intro Way _ .call ?_)
           rename_i r2 hr3
           subst hr3
           repeat' (first | exact True.intro | apply And.intro | (intro h; exact Bool.noConfusion h) | exact ok_op (by kernel_rfl) | exact ok_tr (by kernel_rfl) | intro _ | apply fin_b | rfl | refine @Exists.intro Bool _ true ?_ | refine @Exists.intro Way _ .call ?_)
           rw [hb2 hnb])
end Go.Proofs.YtijjagkeaehhbaaGreat.Eng

/- That the reference's check of a foreign key has one answer for each table and foreign key. Each function's arguments and the stated bounds are its condition. -/
set_option linter.unusedSimpArgs false
set_option linter.unusedVariables false
namespace Go.Proofs.YtijjagkeaehhbaaGreat.Eng
open Go.RowKit (Below)

structure Fo where
  c : List Int
  n : ByteArray
abbrev foL (f : Fo) : List LV := [.pv (.vs 1 (keyRows f.c)), .pv (.str f.n)]
def Fo.row (f : Fo) : List PV := [.vs 1 (keyRows f.c), .str f.n]
def badFo (cs : List Co) (c : List Int) (i : Nat) : Prop := ∃ k, c[i]? = some k ∧ ((decide (k ≥ 0) && decide (k < (cs.map Co.row).length)) = false ∨ ∃ i', i' < i ∧ c[i']? = some k)
set_option maxHeartbeats 2000000 in
set_option maxRecDepth 20000 in
theorem c_foreignX (nm : PV) (cs : List Co) (key fo ch : PV) (c : List Int) (n : ByteArray) (hc : c.length ≤ 1099511627776) : ∃ r0, AFunR Tryz.prog 100 [tabC nm cs key fo ch, .agg (foL ⟨c, n⟩)] (fun r => r = .i r0) := by
  have hlen : (keyRows c).length = c.length := List.length_map ..
  obtain ⟨b, hnm⟩ := c_nameX n
  cases b with
  | false =>
    refine ⟨1, ?_⟩
    refine afun_body T_ok mixed Tryz.func100 rfl (ent_of Tryz.func100 rfl rfl) (Nat.le_of_ble_eq_true rfl) ?_
    repeat' (first | exact True.intro | apply And.intro | (intro h; exact Bool.noConfusion h) | exact ok_op (by kernel_rfl) | exact ok_tr (by kernel_rfl) | intro _ | refine callR_of_fun hnm.afun rfl ?_ | rfl | refine @Exists.intro Bool _ true ?_ | refine @Exists.intro Way _ .call ?_)
    all_goals (exfalso; exact absurd ‹(!false) = false› (by decide))
  | true =>
    obtain ⟨r0, h1, h2, h3⟩ : ∃ r0 : Int, (c.length = 0 → r0 = 25) ∧ ((∃ i, badFo cs c i) → r0 = 25) ∧ (c.length ≠ 0 → (¬ ∃ i, badFo cs c i) → r0 = 0) := by
      by_cases h0 : c.length = 0
      · exact ⟨25, fun _ => rfl, fun _ => rfl, fun h => absurd h0 h⟩
      · by_cases hb : ∃ i, badFo cs c i
        · exact ⟨25, fun _ => rfl, fun _ => rfl, fun _ h => absurd hb h⟩
        · exact ⟨0, fun h => absurd h h0, fun h => absurd h hb, fun _ _ => rfl⟩
    refine ⟨r0, ?_⟩
    refine afun_body T_ok mixed Tryz.func100 rfl (ent_of Tryz.func100 rfl rfl) (Nat.le_of_ble_eq_true rfl) ?_
    repeat' (first | exact True.intro | apply And.intro | (intro h; exact Bool.noConfusion h) | exact ok_op (by kernel_rfl) | exact ok_tr (by kernel_rfl) | intro _ | refine callR_of_fun hnm.afun rfl ?_ | apply fin_i | rfl | refine @Exists.intro Bool _ true ?_ | refine @Exists.intro Way _ .call ?_)
    all_goals first
      | (exfalso; exact absurd ‹(!true) = true› (by decide))
      | (refine (h1 ?_).symm; have := eq_of_beq ‹(((keyRows c).length : Int) == 0) = true›; omega)
      | skip
    have hne : c.length ≠ 0 := by
      have := beq_eq_false_iff_ne.1 ‹(((keyRows c).length : Int) == 0) = false›
      omega
    refine ⟨fun m st => ∃ j : Nat, j ≤ c.length ∧ (∀ i, i < j → ¬ badFo cs c i) ∧ m = c.length - j ∧ st = AS.on [(2, .lv (.ptr 0 0)), (3, .lv (.ptr 1 0)), (5, .i j)] [(0, .box 27 (tabL nm cs key fo ch)), (1, .box 182 (foL ⟨c, n⟩))] 2 46 0 (fun _ => false), ⟨c.length, _, ⟨0, Nat.zero_le _, fun i hi => absurd hi (Nat.not_lt_zero _), rfl, rfl⟩, ?_⟩, ?_⟩
    · refine weak_on rfl rfl rfl rfl ?_ ?_
      · repeat' (first | exact True.intro | apply And.intro | (intro h; exact Bool.noConfusion h) | exact ok_op (by kernel_rfl) | exact ok_tr (by kernel_rfl) | intro _ | rfl | refine @Exists.intro Bool _ true ?_ | refine @Exists.intro Way _ .call ?_)
      · repeat' (first | exact True.intro | apply And.intro | (intro h; exact Bool.noConfusion h) | exact ok_op (by kernel_rfl) | exact ok_tr (by kernel_rfl) | intro _ | rfl | refine Exists.intro _ (And.intro rfl ?_) | refine @Exists.intro Bool _ true ?_ | refine @Exists.intro Way _ .call ?_)
    · rintro m st ⟨j, hj, hall, rfl, rfl⟩
      by_cases hlt : j < c.length
      · obtain ⟨k, hk1⟩ : ∃ k, c[j]? = some k := ⟨_, List.getElem?_eq_getElem hlt⟩
        have hrow := keyRow_get hk1
        have hex := c_exists nm cs key fo ch k
        have hbad : (decide (k ≥ 0) && decide (k < (cs.map Co.row).length)) = false → r0 = 25 := fun h => h2 ⟨j, k, hk1, .inl h⟩
        have hgood : (decide (k ≥ 0) && decide (k < (cs.map Co.row).length)) = true → (∀ i', i' < j → c[i']? ≠ some k) → ¬ badFo cs c j := by
          rintro h h' ⟨k', h3, h4⟩
          rw [hk1] at h3
          cases h3
          rcases h4 with h4 | ⟨i', h5, h6⟩
          · rw [h] at h4; cases h4
          · exact h' i' h5 h6
        have hdup : ∀ i', i' < j → c[i']? = some k → r0 = 25 := fun i' h3 h4 => h2 ⟨j, k, hk1, .inr ⟨i', h3, h4⟩⟩
        clear h1 h2 h3
        generalize (decide (k ≥ 0) && decide (k < (cs.map Co.row).length)) = b at hex hbad hgood
        cases b with
        | false =>
          repeat' (first | exact True.intro | apply And.intro | (intro h; exact Bool.noConfusion h) | exact ok_op (by kernel_rfl) | exact ok_tr (by kernel_rfl) | intro _ | refine Exists.intro _ (And.intro (Int.natCast_nonneg j) (And.intro hrow (And.intro rfl ?_))) | refine Exists.intro _ (And.intro hex.afun (And.intro rfl ?_)) | apply fin_i | rfl | refine @Exists.intro Bool _ true ?_ | refine @Exists.intro Way _ .call ?_)
          all_goals first
            | (exfalso; have := of_decide_eq_false ‹decide ((j : Int) < (keyRows c).length) = false›; omega)
            | (exfalso; exact absurd ‹(!false) = false› (by decide))
            | exact (hbad rfl).symm
        | true =>
          have hg := hgood rfl
          clear hbad hgood
          repeat' (first | exact True.intro | apply And.intro | (intro h; exact Bool.noConfusion h) | exact ok_op (by kernel_rfl) | exact ok_tr (by kernel_rfl) | intro _ | refine Exists.intro _ (And.intro (Int.natCast_nonneg j) (And.intro hrow (And.intro rfl ?_))) | refine Exists.intro _ (And.intro hex.afun (And.intro rfl ?_)) | apply fin_i | rfl | refine @Exists.intro Bool _ true ?_ | refine @Exists.intro Way _ .call ?_)
          all_goals first
            | (exfalso; have := of_decide_eq_false ‹decide ((j : Int) < (keyRows c).length) = false›; omega)
            | (exfalso; exact absurd ‹(!true) = true› (by decide))
            | skip
          refine ⟨fun m st => ∃ k2 : Nat, k2 ≤ j ∧ (∀ i', i' < k2 → c[i']? ≠ some k) ∧ m = j - k2 ∧ st = AS.on [(2, .lv (.ptr 0 0)), (3, .lv (.ptr 1 0)), (5, .i j), (6, .i k2)] [(0, .box 27 (tabL nm cs key fo ch)), (1, .box 182 (foL ⟨c, n⟩))] 2 46 0 (fun _ => false), ⟨j, _, ⟨0, Nat.zero_le _, fun i hi => absurd hi (Nat.not_lt_zero _), rfl, rfl⟩, ?_⟩, ?_⟩
          · refine weak_on rfl rfl rfl rfl ?_ ?_
            · repeat' (first | exact True.intro | apply And.intro | (intro h; exact Bool.noConfusion h) | exact ok_op (by kernel_rfl) | exact ok_tr (by kernel_rfl) | intro _ | rfl | refine @Exists.intro Bool _ true ?_ | refine @Exists.intro Way _ .call ?_)
            · repeat' (first | exact True.intro | apply And.intro | (intro h; exact Bool.noConfusion h) | exact ok_op (by kernel_rfl) | exact ok_tr (by kernel_rfl) | intro _ | rfl | refine Exists.intro _ (And.intro rfl ?_) | refine @Exists.intro Bool _ true ?_ | refine @Exists.intro Way _ .call ?_)
          · rintro m st ⟨k2, hk2, hno, rfl, rfl⟩
            by_cases hlt2 : k2 < j
            · obtain ⟨kk, hkk⟩ : ∃ k, c[k2]? = some k := ⟨_, List.getElem?_eq_getElem (by omega)⟩
              have hrow2 := keyRow_get hkk
              repeat' (first | exact True.intro | apply And.intro | (intro h; exact Bool.noConfusion h) | exact ok_op (by kernel_rfl) | exact ok_tr (by kernel_rfl) | intro _ | refine Exists.intro _ (And.intro (Int.natCast_nonneg k2) (And.intro hrow2 (And.intro rfl ?_))) | refine Exists.intro _ (And.intro (Int.natCast_nonneg j) (And.intro hrow (And.intro rfl ?_))) | apply fin_i | rfl | refine @Exists.intro Bool _ true ?_ | refine @Exists.intro Way _ .call ?_)
              all_goals first
                | (exfalso; have := of_decide_eq_false ‹decide ((k2 : Int) < (j : Int)) = false›; omega)
                | exact (hdup k2 hlt2 (by rw [hkk, eq_of_beq ‹(kk == k) = true›])).symm
                | skip
              refine ⟨j - (k2 + 1), _, by omega, ⟨k2 + 1, hlt2, ?_, rfl, rfl⟩, weak_on rfl rfl rfl rfl ?_ ?_⟩
              · intro i' hi h5
                rcases Nat.lt_succ_iff_lt_or_eq.1 hi with h | h
                · exact hno i' h h5
                · subst h
                  rw [hkk] at h5
                  cases h5
                  exact absurd ‹(k == k) = false› (by simp)
              · repeat' (first | exact True.intro | apply And.intro | (intro h; exact Bool.noConfusion h) | exact ok_op (by kernel_rfl) | exact ok_tr (by kernel_rfl) | intro _ | rfl | (apply fin_i; rw [wrap_id] <;> omega) | refine @Exists.intro Bool _ true ?_ | refine @Exists.intro Way _ .call ?_)
              · repeat' (first | exact True.intro | apply And.intro | (intro h; exact Bool.noConfusion h) | exact ok_op (by kernel_rfl) | exact ok_tr (by kernel_rfl) | intro _ | rfl | refine Exists.intro _ (And.intro rfl ?_) | refine @Exists.intro Bool _ true ?_ | refine @Exists.intro Way _ .call ?_)
            · have hje : k2 = j := by omega
              subst hje
              repeat' (first | exact True.intro | apply And.intro | (intro h; exact Bool.noConfusion h) | exact ok_op (by kernel_rfl) | exact ok_tr (by kernel_rfl) | intro _ | rfl | refine @Exists.intro Bool _ true ?_ | refine @Exists.intro Way _ .call ?_)
              all_goals first
                | (exfalso; have := of_decide_eq_true ‹decide ((k2 : Int) < (k2 : Int)) = true›; omega)
                | skip
              refine ⟨c.length - (k2 + 1), _, by omega, ⟨k2 + 1, hlt, ?_, rfl, rfl⟩, weak_on rfl rfl rfl rfl ?_ ?_⟩
              · intro i hi
                rcases Nat.lt_succ_iff_lt_or_eq.1 hi with h | h
                · exact hall i h
                · subst h
                  exact hg hno
              · repeat' (first | exact True.intro | apply And.intro | (intro h; exact Bool.noConfusion h) | exact ok_op (by kernel_rfl) | exact ok_tr (by kernel_rfl) | intro _ | rfl | (apply fin_i; rw [wrap_id] <;> omega) | refine @Exists.intro Bool _ true ?_ | refine @Exists.intro Way _ .call ?_)
              · repeat' (first | exact True.intro | apply And.intro | (intro h; exact Bool.noConfusion h) | exact ok_op (by kernel_rfl) | exact ok_tr (by kernel_rfl) | intro _ | rfl | refine Exists.intro _ (And.intro rfl ?_) | refine @Exists.intro Bool _ true ?_ | refine @Exists.intro Way _ .call ?_)
      · repeat' (first | exact True.intro | apply And.intro | (intro h; exact Bool.noConfusion h) | exact ok_op (by kernel_rfl) | exact ok_tr (by kernel_rfl) | intro _ | apply fin_i | rfl | refine @Exists.intro Bool _ true ?_ | refine @Exists.intro Way _ .call ?_)
        all_goals first
          | (exfalso; have := of_decide_eq_true ‹decide ((j : Int) < (keyRows c).length) = true›; omega)
          | (refine (h3 hne ?_).symm
             rintro ⟨i, k, h4, h5⟩
             have := (List.getElem?_eq_some_iff.1 h4).1
             exact hall i (by omega) ⟨k, h4, h5⟩)
end Go.Proofs.YtijjagkeaehhbaaGreat.Eng

/- That the reference's check of a table returns some number, and what 'chosen' and SamePath return. Each function's arguments and the stated bounds are its condition. -/
set_option linter.unusedSimpArgs false
set_option linter.unusedVariables false
namespace Go.Proofs.YtijjagkeaehhbaaGreat.Eng
open Go.RowKit (Below)

def foOk (f : Fo) : Prop := f.c.length ≤ 1099511627776
theorem foRow_get {a : List Fo} {j : Nat} {v : Fo} (h : a[j]? = some v) : (a.map Fo.row)[((j : Nat) : Int).toNat]? = some v.row := by
  have : ((j : Nat) : Int).toNat = j := rfl
  rw [this, List.getElem?_map, h]; rfl
set_option maxHeartbeats 2000000 in
set_option maxRecDepth 20000 in
theorem c_constraints (nm : PV) (cs : List Co) (key : PV) (fo : List Fo) (ch : List Ex) (hcs : cs.length ≤ 1099511627776) (hfo : ∀ f ∈ fo, foOk f) (hch : slimL ch) : AFunR Tryz.prog 52 [tabC nm cs key (.vs 2 (fo.map Fo.row)) (.vs 7 (exRows ch))] someI := by
  have hlf : (fo.map Fo.row).length = fo.length := List.length_map ..
  have hlc := exRows_length ch
  have hkl : (cs.map Co.k).length = cs.length := List.length_map ..
  refine afun_body T_ok mixed Tryz.func52 rfl (ent_of Tryz.func52 rfl rfl) (Nat.le_of_ble_eq_true rfl) ?_
  repeat' (first | exact True.intro | apply And.intro | (intro h; exact Bool.noConfusion h) | exact ok_op (by kernel_rfl) | exact ok_tr (by kernel_rfl) | intro _ | exact ⟨_, rfl⟩ | rfl | refine @Exists.intro Bool _ true ?_ | refine @Exists.intro Way _ .call ?_)
  all_goals
    have hl4 : fo.length ≤ 4 := by have := of_decide_eq_false ‹decide (((fo.map Fo.row).length : Int) > 4) = false›; omega
    refine ⟨fun m st => ∃ j : Nat, j ≤ fo.length ∧ m = fo.length - j ∧ st = AS.on [(1, .lv (.ptr 0 0)), (3, .i j)] [(0, .box 27 (tabL nm cs key (.vs 2 (fo.map Fo.row)) (.vs 7 (exRows ch))))] 1 60 0 (fun _ => false), ⟨fo.length, _, ⟨0, Nat.zero_le _, rfl, rfl⟩, ?_⟩, ?_⟩
  · refine weak_on rfl rfl rfl rfl ?_ ?_
    · repeat' (first | exact True.intro | apply And.intro | (intro h; exact Bool.noConfusion h) | exact ok_op (by kernel_rfl) | exact ok_tr (by kernel_rfl) | intro _ | rfl | refine @Exists.intro Bool _ true ?_ | refine @Exists.intro Way _ .call ?_)
    · repeat' (first | exact True.intro | apply And.intro | (intro h; exact Bool.noConfusion h) | exact ok_op (by kernel_rfl) | exact ok_tr (by kernel_rfl) | intro _ | rfl | refine Exists.intro _ (And.intro rfl ?_) | refine @Exists.intro Bool _ true ?_ | refine @Exists.intro Way _ .call ?_)
  · rintro m st ⟨j, hj, rfl, rfl⟩
    by_cases hlt : j < fo.length
    · obtain ⟨f, hf1⟩ : ∃ f, fo[j]? = some f := ⟨_, List.getElem?_eq_getElem hlt⟩
      have hrow := foRow_get hf1
      obtain ⟨c, n⟩ := f
      obtain ⟨r0, hfor⟩ := c_foreignX nm cs key (.vs 2 (fo.map Fo.row)) (.vs 7 (exRows ch)) c n (hfo _ (List.mem_of_getElem? hf1))
      repeat' (first | exact True.intro | apply And.intro | (intro h; exact Bool.noConfusion h) | exact ok_op (by kernel_rfl) | exact ok_tr (by kernel_rfl) | intro _ | refine Exists.intro _ (And.intro (Int.natCast_nonneg j) (And.intro hrow (And.intro rfl ?_))) | refine Exists.intro _ (And.intro hfor.afun (And.intro rfl ?_)) | exact ⟨_, rfl⟩ | rfl | refine @Exists.intro Bool _ true ?_ | refine @Exists.intro Way _ .call ?_)
      all_goals first
        | (exfalso; have := of_decide_eq_false ‹decide ((j : Int) < (fo.map Fo.row).length) = false›; omega)
        | skip
      refine ⟨fo.length - (j + 1), _, by omega, ⟨j + 1, hlt, rfl, rfl⟩, weak_on rfl rfl rfl rfl ?_ ?_⟩
      · repeat' (first | exact True.intro | apply And.intro | (intro h; exact Bool.noConfusion h) | exact ok_op (by kernel_rfl) | exact ok_tr (by kernel_rfl) | intro _ | rfl | (apply fin_i; rw [wrap_id] <;> omega) | refine @Exists.intro Bool _ true ?_ | refine @Exists.intro Way _ .call ?_)
      · repeat' (first | exact True.intro | apply And.intro | (intro h; exact Bool.noConfusion h) | exact ok_op (by kernel_rfl) | exact ok_tr (by kernel_rfl) | intro _ | rfl | refine Exists.intro _ (And.intro rfl ?_) | refine @Exists.intro Bool _ true ?_ | refine @Exists.intro Way _ .call ?_)
    · repeat' (first | exact True.intro | apply And.intro | (intro h; exact Bool.noConfusion h) | exact ok_op (by kernel_rfl) | exact ok_tr (by kernel_rfl) | intro _ | exact ⟨_, rfl⟩ | rfl | refine @Exists.intro Bool _ true ?_ | refine @Exists.intro Way _ .call ?_)
      all_goals first
        | (exfalso; have := of_decide_eq_true ‹decide ((j : Int) < (fo.map Fo.row).length) = true›; omega)
        | skip
      have hc4 : ch.length ≤ 4 := by have := of_decide_eq_false ‹decide (((exRows ch).length : Int) > 4) = false›; omega
      refine ⟨fun m st => ∃ j : Nat, j ≤ ch.length ∧ m = ch.length - j ∧ st = AS.on [(1, .lv (.ptr 0 0)), (5, .i j)] [(0, .box 27 (tabL nm cs key (.vs 2 (fo.map Fo.row)) (.vs 7 (exRows ch))))] 1 60 0 (fun _ => false), ⟨ch.length, _, ⟨0, Nat.zero_le _, rfl, rfl⟩, ?_⟩, ?_⟩
      · refine weak_on rfl rfl rfl rfl ?_ ?_
        · repeat' (first | exact True.intro | apply And.intro | (intro h; exact Bool.noConfusion h) | exact ok_op (by kernel_rfl) | exact ok_tr (by kernel_rfl) | intro _ | rfl | refine @Exists.intro Bool _ true ?_ | refine @Exists.intro Way _ .call ?_)
        · repeat' (first | exact True.intro | apply And.intro | (intro h; exact Bool.noConfusion h) | exact ok_op (by kernel_rfl) | exact ok_tr (by kernel_rfl) | intro _ | rfl | refine Exists.intro _ (And.intro rfl ?_) | refine @Exists.intro Bool _ true ?_ | refine @Exists.intro Way _ .call ?_)
      · rintro m st ⟨j, hj, rfl, rfl⟩
        by_cases hlt : j < ch.length
        · obtain ⟨x, hx⟩ : ∃ x, ch[j]? = some x := ⟨_, List.getElem?_eq_getElem hlt⟩
          have hrow := exRows_get ch j x hx
          have hrow' : (exRows ch)[((j : Nat) : Int).toNat]? = some x.row := hrow
          have hkinds := c_kinds nm cs key (.vs 2 (fo.map Fo.row)) (.vs 7 (exRows ch)) hcs
          have hchk := c_check11 (cs.map Co.k) x (by omega) (slimL_get ch j x hch hx)
          generalize chk11 (cs.map Co.k) x = d at hchk
          obtain ⟨dk, df⟩ := d
          obtain ⟨xo, xn, xk, xi, xt, xs, xa⟩ := x
          repeat' (first | exact True.intro | apply And.intro | (intro h; exact Bool.noConfusion h) | exact ok_op (by kernel_rfl) | exact ok_tr (by kernel_rfl) | intro _ | refine Exists.intro _ (And.intro (Int.natCast_nonneg j) (And.intro hrow' (And.intro rfl ?_))) | refine Exists.intro _ (And.intro hkinds.afun (And.intro rfl ?_)) | refine Exists.intro _ (And.intro hchk.afun (And.intro rfl ?_)) | exact ⟨_, rfl⟩ | rfl | refine @Exists.intro Bool _ true ?_ | refine @Exists.intro Way _ .call ?_)
          all_goals first
            | (exfalso; have := of_decide_eq_false ‹decide ((j : Int) < (exRows ch).length) = false›; omega)
            | skip
          all_goals
            refine ⟨ch.length - (j + 1), _, by omega, ⟨j + 1, hlt, rfl, rfl⟩, weak_on rfl rfl rfl rfl ?_ ?_⟩
            · repeat' (first | exact True.intro | apply And.intro | (intro h; exact Bool.noConfusion h) | exact ok_op (by kernel_rfl) | exact ok_tr (by kernel_rfl) | intro _ | rfl | (apply fin_i; rw [wrap_id] <;> omega) | refine @Exists.intro Bool _ true ?_ | refine @Exists.intro Way _ .call ?_)
            · repeat' (first | exact True.intro | apply And.intro | (intro h; exact Bool.noConfusion h) | exact ok_op (by kernel_rfl) | exact ok_tr (by kernel_rfl) | intro _ | rfl | refine Exists.intro _ (And.intro rfl ?_) | refine @Exists.intro Bool _ true ?_ | refine @Exists.intro Way _ .call ?_)
        · repeat' (first | exact True.intro | apply And.intro | (intro h; exact Bool.noConfusion h) | exact ok_op (by kernel_rfl) | exact ok_tr (by kernel_rfl) | intro _ | exact ⟨_, rfl⟩ | rfl | refine @Exists.intro Bool _ true ?_ | refine @Exists.intro Way _ .call ?_)
          all_goals first
            | (exfalso; have := of_decide_eq_true ‹decide ((j : Int) < (exRows ch).length) = true›; omega)
            | skip
theorem callR_of_someI {P : Program} {g : Nat} {args : List AV} (h : AFunR P g args someI) (hp : aids args = []) {s : AS} {R : AV → AS → Prop} (hR : ∀ n : Int, R (.i n) s) : CallR P g args s R :=
  callR_of_funR h hp fun r ⟨n, hn⟩ => by subst hn; exact hR n
theorem callR_of_someB {P : Program} {g : Nat} {args : List AV} (h : AFunR P g args someB) (hp : aids args = []) {s : AS} {R : AV → AS → Prop} (hR : ∀ n : Bool, R (.b n) s) : CallR P g args s R :=
  callR_of_funR h hp fun r ⟨n, hn⟩ => by subst hn; exact hR n
theorem c_check13 (nm : ByteArray) (cs : List Co) (ks : List Int) (fo : List Fo) (ch : List Ex) (hks : ks.length ≤ 1099511627776) (hcs : cs.length ≤ 1099511627776) (hfo : ∀ f ∈ fo, foOk f) (hch : slimL ch) : AFunR Tryz.prog 21 [tabC (.str nm) cs (.vs 1 (keyRows ks)) (.vs 2 (fo.map Fo.row)) (.vs 7 (exRows ch))] someI := by
  have h1 := c_columns (.str nm) cs (.vs 1 (keyRows ks)) (.vs 2 (fo.map Fo.row)) (.vs 7 (exRows ch)) hcs
  have h2 := c_keyT (.str nm) cs ks (.vs 2 (fo.map Fo.row)) (.vs 7 (exRows ch)) hks
  have h3 := c_constraints (.str nm) cs (.vs 1 (keyRows ks)) fo ch hcs hfo hch
  obtain ⟨b, hnm⟩ := c_nameX nm
  refine afun_body T_ok mixed Tryz.func21 rfl (ent_of Tryz.func21 rfl rfl) (Nat.le_of_ble_eq_true rfl) ?_
  repeat' (first | exact True.intro | apply And.intro | (intro h; exact Bool.noConfusion h) | exact ok_op (by kernel_rfl) | exact ok_tr (by kernel_rfl) | intro _ | refine callR_of_fun hnm.afun rfl ?_ | refine callR_of_someI h1 rfl ?_ | refine callR_of_someI h2 rfl ?_ | refine callR_of_someI h3 rfl ?_ | exact ⟨_, rfl⟩ | rfl | refine @Exists.intro Bool _ true ?_ | refine @Exists.intro Way _ .call ?_)
set_option maxRecDepth 20000 in
theorem c_chosen (nm : ByteArray) (cs : List Co) (ks : List Int) (fo : List Fo) (ch : List Ex) (e : Ex) (d0 d1 : Int) (hks : ks.length ≤ 1099511627776) (hcs : cs.length ≤ 1099511627776) (hfo : ∀ f ∈ fo, foOk f) (hch : slimL ch) (he : e.slim) :
    AFunR Tryz.prog 6 [tabC (.str nm) cs (.vs 1 (keyRows ks)) (.vs 2 (fo.map Fo.row)) (.vs 7 (exRows ch)), .agg (pvs e.row), per d0 d1] someB := by
  have hkl : (cs.map Co.k).length = cs.length := List.length_map ..
  have hkinds := c_kinds (.str nm) cs (.vs 1 (keyRows ks)) (.vs 2 (fo.map Fo.row)) (.vs 7 (exRows ch)) hcs
  have hchk := c_check11 (cs.map Co.k) e (by omega) he
  have h13 := c_check13 nm cs ks fo ch hks hcs hfo hch
  generalize chk11 (cs.map Co.k) e = d at hchk
  obtain ⟨dk, df⟩ := d
  obtain ⟨xo, xn, xk, xi, xt, xs, xa⟩ := e
  refine afun_body T_ok mixed Tryz.func6 rfl (ent_of Tryz.func6 rfl rfl) (Nat.le_of_ble_eq_true rfl) ?_
  repeat' (first | exact True.intro | apply And.intro | (intro h; exact Bool.noConfusion h) | exact ok_op (by kernel_rfl) | exact ok_tr (by kernel_rfl) | intro _ | refine Exists.intro _ (And.intro hkinds.afun (And.intro rfl ?_)) | refine Exists.intro _ (And.intro hchk.afun (And.intro rfl ?_)) | refine callR_of_someI h13 rfl ?_ | refine callR_of_fun (c_rvalid _ _).afun rfl ?_ | exact ⟨_, rfl⟩ | rfl | refine @Exists.intro Bool _ true ?_ | refine @Exists.intro Way _ .call ?_)
theorem rcmpR_self : ∀ a : List Vl, rcmpR a a = 0
  | [] => rfl
  | x :: a => by
    rw [rcmpR, rcmpR_self a, if_neg]
    rw [(vcmpR_zero x x).2 ⟨rfl, rfl, rfl⟩]
    decide
end Go.Proofs.YtijjagkeaehhbaaGreat.Eng

/- What the reference's operations on values and truth values compute. Each function's arguments and the stated bounds are its condition. -/
set_option linter.unusedSimpArgs false
set_option linter.unusedVariables false
namespace Go.Proofs.YtijjagkeaehhbaaGreat.Eng
open Go.RowKit (Below)

abbrev emp : ByteArray := ⟨#[]⟩
def boolV (b : Bool) : Vl := ⟨3, if b = true then 1 else 0, emp⟩
theorem c_rbool (b : Bool) : AFunR Tryz.prog 55 [.b b] (fun r => r = (boolV b).agg) := by
  cases b <;> (refine afun_body T_ok mixed Tryz.func55 rfl (ent_of Tryz.func55 rfl rfl) (Nat.le_of_ble_eq_true rfl) ?_; repeat' (first | exact True.intro | apply And.intro | (intro h; exact Bool.noConfusion h) | exact ok_op (by kernel_rfl) | exact ok_tr (by kernel_rfl) | intro _ | rfl | refine @Exists.intro Bool _ true ?_ | refine @Exists.intro Way _ .call ?_))
def notT (a : Int) : Int := if a = 2 then 0 else if a = 0 then 2 else 1
theorem c_rnot (a : Int) : AFunR Tryz.prog 60 [.i a] (fun r => r = .i (notT a)) := by
  refine afun_body T_ok mixed Tryz.func60 rfl (ent_of Tryz.func60 rfl rfl) (Nat.le_of_ble_eq_true rfl) ?_
  repeat' (first | exact True.intro | apply And.intro | (intro h; exact Bool.noConfusion h) | exact ok_op (by kernel_rfl) | exact ok_tr (by kernel_rfl) | intro _ | apply fin_i | refine @Exists.intro Bool _ true ?_ | refine @Exists.intro Way _ .call ?_)
  all_goals (unfold notT; grind)
def andT (a b : Int) : Int := if a = 0 ∨ b = 0 then 0 else if a = 2 ∧ b = 2 then 2 else 1
theorem c_rand (a b : Int) : AFunR Tryz.prog 103 [.i a, .i b] (fun r => r = .i (andT a b)) := by
  refine afun_body T_ok mixed Tryz.func103 rfl (ent_of Tryz.func103 rfl rfl) (Nat.le_of_ble_eq_true rfl) ?_
  repeat' (first | exact True.intro | apply And.intro | (intro h; exact Bool.noConfusion h) | exact ok_op (by kernel_rfl) | exact ok_tr (by kernel_rfl) | intro _ | apply fin_i | refine @Exists.intro Bool _ true ?_ | refine @Exists.intro Way _ .call ?_)
  all_goals (unfold andT; grind)
def orT (a b : Int) : Int := if a = 2 ∨ b = 2 then 2 else if a = 0 ∧ b = 0 then 0 else 1
theorem c_ror (a b : Int) : AFunR Tryz.prog 104 [.i a, .i b] (fun r => r = .i (orT a b)) := by
  refine afun_body T_ok mixed Tryz.func104 rfl (ent_of Tryz.func104 rfl rfl) (Nat.le_of_ble_eq_true rfl) ?_
  repeat' (first | exact True.intro | apply And.intro | (intro h; exact Bool.noConfusion h) | exact ok_op (by kernel_rfl) | exact ok_tr (by kernel_rfl) | intro _ | apply fin_i | refine @Exists.intro Bool _ true ?_ | refine @Exists.intro Way _ .call ?_)
  all_goals (unfold orT; grind)
def ofV (t : Int) : Vl := if t = 2 ∨ t = 0 then boolV (t == 2) else nullV
theorem fin_vl {x y : Vl} (h : x = y) : x.agg = y.agg := by rw [h]
theorem c_rof (t : Int) : AFunR Tryz.prog 59 [.i t] (fun r => r = (ofV t).agg) := by
  have hb := c_rbool (t == 2)
  by_cases h : t = 2 ∨ t = 0
  · have e : ofV t = boolV (t == 2) := by unfold ofV; rw [if_pos h]
    rw [e]
    generalize (boolV (t == 2)) = v at hb
    obtain ⟨vk, vi, vt⟩ := v
    refine afun_body T_ok mixed Tryz.func59 rfl (ent_of Tryz.func59 rfl rfl) (Nat.le_of_ble_eq_true rfl) ?_
    repeat' (first | exact True.intro | apply And.intro | (intro h; exact Bool.noConfusion h) | exact ok_op (by kernel_rfl) | exact ok_tr (by kernel_rfl) | intro _ | refine callR_of_fun hb.afun rfl ?_ | rfl | refine @Exists.intro Bool _ true ?_ | refine @Exists.intro Way _ .call ?_)
    all_goals (exfalso; clear hb e; grind)
  · have e : ofV t = nullV := by unfold ofV; rw [if_neg h]
    rw [e]
    generalize (boolV (t == 2)) = v at hb
    obtain ⟨vk, vi, vt⟩ := v
    refine afun_body T_ok mixed Tryz.func59 rfl (ent_of Tryz.func59 rfl rfl) (Nat.le_of_ble_eq_true rfl) ?_
    repeat' (first | exact True.intro | apply And.intro | (intro h; exact Bool.noConfusion h) | exact ok_op (by kernel_rfl) | exact ok_tr (by kernel_rfl) | intro _ | refine callR_of_fun hb.afun rfl ?_ | refine callR_of_fun c_rnull.afun rfl ?_ | rfl | refine @Exists.intro Bool _ true ?_ | refine @Exists.intro Way _ .call ?_)
    all_goals (exfalso; clear hb e; grind)
def eqV0 (v : Vl) (i : Int) : Bool := v.k == 3 && (v.i == i && v.t.toList == emp.toList)
def truthV (v : Vl) : Int := if eqV0 v 1 = true then 2 else if eqV0 v 0 = true then 0 else 1
theorem c_rtruth (v : Vl) : AFunR Tryz.prog 26 [v.agg] (fun r => r = .i (truthV v)) := by
  obtain ⟨k, i, t⟩ := v
  have hd : truthV ⟨k, i, t⟩ = if (k == 3 && (i == 1 && t.toList == emp.toList)) = true then 2 else if (k == 3 && (i == 0 && t.toList == emp.toList)) = true then 0 else 1 := rfl
  have hbt : AFunR Tryz.prog 55 [.b true] (fun r => r = .agg [li 3, li 1, .pv (.str emp)]) := c_rbool true
  have hbf : AFunR Tryz.prog 55 [.b false] (fun r => r = .agg [li 3, li 0, .pv (.str emp)]) := c_rbool false
  generalize truthV ⟨k, i, t⟩ = R at hd ⊢
  refine afun_body T_ok mixed Tryz.func26 rfl (ent_of Tryz.func26 rfl rfl) (Nat.le_of_ble_eq_true rfl) ?_
  repeat' (first | exact True.intro | apply And.intro | (intro h; exact Bool.noConfusion h) | exact ok_op (by kernel_rfl) | exact ok_tr (by kernel_rfl) | intro _ | refine Exists.intro _ (And.intro hbt.afun (And.intro rfl ?_)) | refine Exists.intro _ (And.intro hbf.afun (And.intro rfl ?_)) | refine Exists.intro _ (And.intro (eq_val _ _ _ _ _ _ _ _) ?_) | apply fin_i | refine @Exists.intro Bool _ true ?_ | refine @Exists.intro Way _ .call ?_)
  all_goals (clear hbt hbf; generalize (t.toList == emp.toList) = q at *; grind)
def truthC (a b : Vl) (s : Bool) : Int := if a.k = 0 ∨ a.k ≠ b.k then 1 else if s = true then 2 else 0
theorem c_rtruthC (a b : Vl) (s : Bool) : AFunR Tryz.prog 146 [a.agg, b.agg, .b s] (fun r => r = .i (truthC a b s)) := by
  obtain ⟨ak, ai, at'⟩ := a
  obtain ⟨bk, bi, bt⟩ := b
  have hd : truthC ⟨ak, ai, at'⟩ ⟨bk, bi, bt⟩ s = if ak = 0 ∨ ak ≠ bk then 1 else if s = true then 2 else 0 := rfl
  rw [hd]
  refine afun_body T_ok mixed Tryz.func146 rfl (ent_of Tryz.func146 rfl rfl) (Nat.le_of_ble_eq_true rfl) ?_
  repeat' (first | exact True.intro | apply And.intro | (intro h; exact Bool.noConfusion h) | exact ok_op (by kernel_rfl) | exact ok_tr (by kernel_rfl) | intro _ | apply fin_i | refine @Exists.intro Bool _ true ?_ | refine @Exists.intro Way _ .call ?_)
  all_goals grind
def equalT (a b : Vl) : Int := truthC a b (vcmpR a b == 0)
set_option maxRecDepth 20000 in
theorem c_requalT (a b : Vl) : AFunR Tryz.prog 105 [a.agg, b.agg] (fun r => r = .i (equalT a b)) := by
  have hc := c_rvcmp a b
  have ht := c_rtruthC a b
  unfold equalT
  generalize vcmpR a b = c at hc ⊢
  have ht := ht (c == 0)
  generalize truthC a b (c == 0) = R at ht ⊢
  obtain ⟨ak, ai, at'⟩ := a
  obtain ⟨bk, bi, bt⟩ := b
  refine afun_body T_ok mixed Tryz.func105 rfl (ent_of Tryz.func105 rfl rfl) (Nat.le_of_ble_eq_true rfl) ?_
  repeat' (first | exact True.intro | apply And.intro | (intro h; exact Bool.noConfusion h) | exact ok_op (by kernel_rfl) | exact ok_tr (by kernel_rfl) | intro _ | refine Exists.intro _ (And.intro hc.afun (And.intro rfl ?_)) | refine Exists.intro _ (And.intro ht.afun (And.intro rfl ?_)) | rfl | refine @Exists.intro Bool _ true ?_ | refine @Exists.intro Way _ .call ?_)
def lessT (a b : Vl) : Int := truthC a b (decide (vcmpR a b < 0))
set_option maxRecDepth 20000 in
theorem c_rlessT (a b : Vl) : AFunR Tryz.prog 106 [a.agg, b.agg] (fun r => r = .i (lessT a b)) := by
  have hc := c_rvcmp a b
  have ht := c_rtruthC a b
  unfold lessT
  generalize vcmpR a b = c at hc ⊢
  have ht := ht (decide (c < 0))
  generalize truthC a b (decide (c < 0)) = R at ht ⊢
  obtain ⟨ak, ai, at'⟩ := a
  obtain ⟨bk, bi, bt⟩ := b
  refine afun_body T_ok mixed Tryz.func106 rfl (ent_of Tryz.func106 rfl rfl) (Nat.le_of_ble_eq_true rfl) ?_
  repeat' (first | exact True.intro | apply And.intro | (intro h; exact Bool.noConfusion h) | exact ok_op (by kernel_rfl) | exact ok_tr (by kernel_rfl) | intro _ | refine Exists.intro _ (And.intro hc.afun (And.intro rfl ?_)) | refine Exists.intro _ (And.intro ht.afun (And.intro rfl ?_)) | rfl | refine @Exists.intro Bool _ true ?_ | refine @Exists.intro Way _ .call ?_)
def cmpdT (op : Int) (a b : Vl) : Int := if op = 7 then equalT a b else if op = 8 then notT (equalT a b) else if op = 9 then lessT a b else if op = 11 then lessT b a else if op = 10 then notT (lessT b a) else notT (lessT a b)
theorem c_rcompared (op : Int) (a b : Vl) : AFunR Tryz.prog 62 [.i op, a.agg, b.agg] (fun r => r = .i (cmpdT op a b)) := by
  have h1 := c_requalT a b
  have h2 := c_rlessT a b
  have h3 := c_rlessT b a
  unfold cmpdT
  generalize equalT a b = e at h1 ⊢
  generalize lessT a b = l at h2 ⊢
  generalize lessT b a = g at h3 ⊢
  obtain ⟨ak, ai, at'⟩ := a
  obtain ⟨bk, bi, bt⟩ := b
  refine afun_body T_ok mixed Tryz.func62 rfl (ent_of Tryz.func62 rfl rfl) (Nat.le_of_ble_eq_true rfl) ?_
  repeat' (first | exact True.intro | apply And.intro | (intro h; exact Bool.noConfusion h) | exact ok_op (by kernel_rfl) | exact ok_tr (by kernel_rfl) | intro _ | refine callR_of_fun h1.afun rfl ?_ | refine callR_of_fun h2.afun rfl ?_ | refine callR_of_fun h3.afun rfl ?_ | refine callR_of_fun (c_rnot _).afun rfl ?_ | apply fin_i | refine @Exists.intro Bool _ true ?_ | refine @Exists.intro Way _ .call ?_)
  all_goals (clear h1 h2 h3; grind)
def validOr (v : Vl) : Vl := if validV v.k v.i v.t = true then v else nullV
theorem c_rvalidOr (v : Vl) : AFunR Tryz.prog 107 [v.agg] (fun r => r = (validOr v).agg) := by
  obtain ⟨k, i, t⟩ := v
  have hv := c_rvvalid k i t
  have hd : validOr ⟨k, i, t⟩ = if validV k i t = true then ⟨k, i, t⟩ else nullV := rfl
  rw [hd]
  generalize validV k i t = b at hv ⊢
  refine afun_body T_ok mixed Tryz.func107 rfl (ent_of Tryz.func107 rfl rfl) (Nat.le_of_ble_eq_true rfl) ?_
  cases b <;> repeat' (first | exact True.intro | apply And.intro | (intro h; exact Bool.noConfusion h) | exact ok_op (by kernel_rfl) | exact ok_tr (by kernel_rfl) | intro _ | refine callR_of_fun hv.afun rfl ?_ | refine callR_of_fun c_rnull.afun rfl ?_ | rfl | refine @Exists.intro Bool _ true ?_ | refine @Exists.intro Way _ .call ?_)
  all_goals (first | exact absurd ‹true = false› (by decide) | exact absurd ‹false = true› (by decide))
def okT (v : Vl) : Prop := (v.k = 2 → v.t.size ≤ 200) ∧ (v.k = 1 → -1125899906842624 ≤ v.i ∧ v.i ≤ 1125899906842624)
theorem ok_null : okT nullV := ⟨fun h => absurd h (by decide), fun h => absurd h (by decide)⟩
theorem ok_validOr (v : Vl) : okT (validOr v) := by
  unfold validOr
  split
  · rename_i h
    unfold validV at h
    constructor
    · intro hk
      rw [hk] at h
      simp at h
      omega
    · intro hk
      rw [hk] at h
      simp at h
      omega
  · exact ok_null
theorem ok_bool (b : Bool) : okT (boolV b) := ⟨fun h => absurd (show (3 : Int) = 2 from h) (by decide), fun h => absurd (show (3 : Int) = 1 from h) (by decide)⟩
theorem ok_of (t : Int) : okT (ofV t) := by
  unfold ofV
  split
  · exact ok_bool _
  · exact ok_null
theorem c_rint (n : Int) : AFunR Tryz.prog 64 [.i n] (fun r => r = (validOr ⟨1, n, emp⟩).agg) := by
  have hv := c_rvalidOr ⟨1, n, emp⟩
  generalize validOr ⟨1, n, emp⟩ = v at hv ⊢
  obtain ⟨vk, vi, vt⟩ := v
  refine afun_body T_ok mixed Tryz.func64 rfl (ent_of Tryz.func64 rfl rfl) (Nat.le_of_ble_eq_true rfl) ?_
  repeat' (first | exact True.intro | apply And.intro | (intro h; exact Bool.noConfusion h) | exact ok_op (by kernel_rfl) | exact ok_tr (by kernel_rfl) | intro _ | refine callR_of_fun hv.afun rfl ?_ | rfl | refine @Exists.intro Bool _ true ?_ | refine @Exists.intro Way _ .call ?_)
theorem c_rtext (s : ByteArray) : AFunR Tryz.prog 108 [.pv (.str s)] (fun r => r = (validOr ⟨2, 0, s⟩).agg) := by
  have hv := c_rvalidOr ⟨2, 0, s⟩
  generalize validOr ⟨2, 0, s⟩ = v at hv ⊢
  obtain ⟨vk, vi, vt⟩ := v
  refine afun_body T_ok mixed Tryz.func108 rfl (ent_of Tryz.func108 rfl rfl) (Nat.le_of_ble_eq_true rfl) ?_
  repeat' (first | exact True.intro | apply And.intro | (intro h; exact Bool.noConfusion h) | exact ok_op (by kernel_rfl) | exact ok_tr (by kernel_rfl) | intro _ | refine callR_of_fun hv.afun rfl ?_ | rfl | refine @Exists.intro Bool _ true ?_ | refine @Exists.intro Way _ .call ?_)
def leafV (op n : Int) (v0 : Vl) (row : List Vl) : Vl := if op = 2 then validOr (pickV row n) else validOr v0
theorem c_rleaf (op n vk vi : Int) (vt s : ByteArray) (q : PV) (row : List Vl) : AFunR Tryz.prog 58 [.agg (exL op n vk vi vt s q), vlA row] (fun r => r = (leafV op n ⟨vk, vi, vt⟩ row).agg) := by
  have hat := c_rat row n
  unfold leafV
  by_cases h2 : op = 2
  · rw [if_pos h2]
    subst h2
    generalize pickV row n = w at hat ⊢
    obtain ⟨k, i, t⟩ := w
    have hv := c_rvvalid k i t
    have hd : validOr ⟨k, i, t⟩ = if validV k i t = true then ⟨k, i, t⟩ else nullV := rfl
    rw [hd]
    generalize validV k i t = b at hv ⊢
    refine afun_body T_ok mixed Tryz.func58 rfl (ent_of Tryz.func58 rfl rfl) (Nat.le_of_ble_eq_true rfl) ?_
    cases b <;> repeat' (first | exact True.intro | apply And.intro | (intro h; exact Bool.noConfusion h) | exact ok_op (by kernel_rfl) | exact ok_tr (by kernel_rfl) | intro _ | refine callR_of_fun hat.afun rfl ?_ | refine callR_of_fun hv.afun rfl ?_ | refine callR_of_fun c_rnull.afun rfl ?_ | rfl | refine @Exists.intro Bool _ true ?_ | refine @Exists.intro Way _ .call ?_)
  · rw [if_neg h2]
    have hv := c_rvvalid vk vi vt
    have hd : validOr ⟨vk, vi, vt⟩ = if validV vk vi vt = true then ⟨vk, vi, vt⟩ else nullV := rfl
    rw [hd]
    generalize validV vk vi vt = b at hv ⊢
    refine afun_body T_ok mixed Tryz.func58 rfl (ent_of Tryz.func58 rfl rfl) (Nat.le_of_ble_eq_true rfl) ?_
    cases b <;> repeat' (first | exact True.intro | apply And.intro | (intro h; exact Bool.noConfusion h) | exact ok_op (by kernel_rfl) | exact ok_tr (by kernel_rfl) | intro _ | refine callR_of_fun hv.afun rfl ?_ | refine callR_of_fun c_rnull.afun rfl ?_ | rfl | refine @Exists.intro Bool _ true ?_ | refine @Exists.intro Way _ .call ?_)
    all_goals (exfalso; exact h2 (eq_of_beq ‹(op == 2) = true›))
end Go.Proofs.YtijjagkeaehhbaaGreat.Eng
