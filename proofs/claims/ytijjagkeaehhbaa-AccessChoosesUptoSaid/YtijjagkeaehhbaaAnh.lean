/- That the reference's check of a table returns some number. Each function's arguments and the stated bounds are its condition. -/
import Derived.Test.YtijjagkeaehhbaaAng
set_option linter.unusedSimpArgs false
set_option linter.unusedVariables false
namespace Go.Proofs.Ytijjagkeaehhbaa.Eng
open Go.RowKit (Below)

mutual
theorem slim_fits : ∀ e : Ex, e.slim → e.fits
  | .mk _ _ _ _ _ _ args, h => ⟨Nat.le_trans h.1 (by decide), slimL_fits args h.2⟩
theorem slimL_fits : ∀ l : List Ex, slimL l → fitsL l
  | [], _ => trivial
  | e :: r, h => ⟨slim_fits e h.1, slimL_fits r h.2⟩
end
def chk11 (ks : List Int) (e : Ex) : Int × Int := if depE e > 24 then (0, 26) else chkE ks e
theorem c_check11 (ks : List Int) (e : Ex) (hks : ks.length ≤ 9223372036854775807) (hs : e.slim) : AFunR Try.prog 40 [.agg (pvs e.row), intsA ks] (fun r => r = pairA (chk11 ks e)) := by
  have hd := c_depth (SizeOf.sizeOf e + 1) e (slim_fits e hs) (Nat.lt_succ_self _)
  have hc := c_check ks hks (SizeOf.sizeOf e + 1) e hs (Nat.lt_succ_self _)
  unfold chk11
  generalize depE e = d at hd ⊢
  generalize chkE ks e = c at hc ⊢
  obtain ⟨op, n, vk, vi, vt, s, args⟩ := e
  refine afun_body T_ok mixed Try.func40 rfl (ent_of Try.func40 rfl rfl) (Nat.le_of_ble_eq_true rfl) ?_
  repeat' (first | exact True.intro | apply And.intro | (intro h; exact Bool.noConfusion h) | exact ok_op (by kernel_rfl) | exact ok_tr (by kernel_rfl) | intro _ | refine callR_of_fun hd.afun rfl ?_ | refine callR_of_fun hc.afun rfl ?_ | refine fin_to (y := .tup [.lf (li _), .lf (li _)]) rfl ?_ | rfl | refine @Exists.intro Bool _ true ?_ | refine @Exists.intro Way _ .call ?_)
  · exact ⟨pair_eq (by rw [if_pos (of_decide_eq_true (by assumption))])⟩
  · exact ⟨pair_eq (by rw [if_neg (of_decide_eq_false (by assumption))])⟩

def someI : AV → Prop := fun r => ∃ n, r = .i n
def someB : AV → Prop := fun r => ∃ b, r = .b b
def isStr : List PV → Bool
  | [.str _] => true
  | _ => false
theorem isStr_get {rows : List (List PV)} (h : rows.all isStr = true) {j : Nat} (hj : j < rows.length) : ∃ w, rows[((j : Nat) : Int).toNat]? = some [.str w] := by
  have h1 := List.all_eq_true.1 h rows[j] (List.getElem_mem hj)
  have h2 : rows[((j : Nat) : Int).toNat]? = some rows[j] := List.getElem?_eq_getElem hj
  rw [h2]
  unfold isStr at h1
  split at h1
  · rename_i w hw; exact ⟨w, by rw [hw]⟩
  · cases h1
set_option maxRecDepth 20000 in
theorem c_words : AFunR Try.prog 108 [] (fun r => ∃ rows, r = .pv (.vs 1 rows) ∧ rows.all isStr = true ∧ Nat.ble rows.length 1000 = true) := by
  refine afun_body T_ok mixed Try.func108 rfl (ent_of Try.func108 rfl rfl) (Nat.le_of_ble_eq_true rfl) ?_
  repeat' (first | exact True.intro | apply And.intro | (intro h; exact Bool.noConfusion h) | exact ok_op (by kernel_rfl) | exact ok_tr (by kernel_rfl) | intro _ | exact ⟨_, rfl, rfl, rfl⟩ | refine @Exists.intro Bool _ true ?_ | refine @Exists.intro Way _ .call ?_)
theorem c_in (rows : List (List PV)) (s : ByteArray) (hr : rows.all isStr = true) (hl : rows.length ≤ 1000) : AFunR Try.prog 107 [.pv (.vs 1 rows), .pv (.str s)] someB := by
  refine afun_body T_ok mixed Try.func107 rfl (ent_of Try.func107 rfl rfl) (Nat.le_of_ble_eq_true rfl) ?_
  repeat' (first | exact True.intro | apply And.intro | (intro h; exact Bool.noConfusion h) | exact ok_op (by kernel_rfl) | exact ok_tr (by kernel_rfl) | intro _ | rfl | refine @Exists.intro Bool _ true ?_ | refine @Exists.intro Way _ .call ?_)
  refine ⟨fun m st => ∃ j : Nat, j ≤ rows.length ∧ m = rows.length - j ∧ st = AS.on [(0, .pv (.vs 1 rows)), (1, .pv (.str s)), (5, .i j)] [] 0 18 0 (fun _ => false), ⟨rows.length, _, ⟨0, Nat.zero_le _, rfl, rfl⟩, ?_⟩, ?_⟩
  · refine weak_on rfl rfl rfl rfl ?_ ?_
    repeat' (first | exact True.intro | apply And.intro | (intro h; exact Bool.noConfusion h) | exact ok_op (by kernel_rfl) | exact ok_tr (by kernel_rfl) | intro _ | rfl | refine @Exists.intro Bool _ true ?_ | refine @Exists.intro Way _ .call ?_)
  · rintro m st ⟨j, hj, rfl, rfl⟩
    by_cases hlt : j < rows.length
    · obtain ⟨w, hrow⟩ := isStr_get hr hlt
      repeat' (first | exact True.intro | apply And.intro | (intro h; exact Bool.noConfusion h) | exact ok_op (by kernel_rfl) | exact ok_tr (by kernel_rfl) | intro _ | refine Exists.intro _ (And.intro (Int.natCast_nonneg j) (And.intro hrow (And.intro rfl ?_))) | exact ⟨_, rfl⟩ | rfl | refine @Exists.intro Bool _ true ?_ | refine @Exists.intro Way _ .call ?_)
      all_goals first
        | (exfalso; have := of_decide_eq_false ‹decide ((j : Int) < rows.length) = false›; omega)
        | skip
      refine ⟨rows.length - (j + 1), _, by omega, ⟨j + 1, hlt, rfl, rfl⟩, weak_on rfl rfl rfl rfl ?_ ?_⟩
      · repeat' (first | exact True.intro | apply And.intro | (intro h; exact Bool.noConfusion h) | exact ok_op (by kernel_rfl) | exact ok_tr (by kernel_rfl) | intro _ | rfl | (apply fin_i; rw [wrap_id] <;> omega) | refine @Exists.intro Bool _ true ?_ | refine @Exists.intro Way _ .call ?_)
      · repeat' (first | exact True.intro | apply And.intro | (intro h; exact Bool.noConfusion h) | exact ok_op (by kernel_rfl) | exact ok_tr (by kernel_rfl) | intro _ | rfl | refine @Exists.intro Bool _ true ?_ | refine @Exists.intro Way _ .call ?_)
    · repeat' (first | exact True.intro | apply And.intro | (intro h; exact Bool.noConfusion h) | exact ok_op (by kernel_rfl) | exact ok_tr (by kernel_rfl) | intro _ | exact ⟨_, rfl⟩ | rfl | refine @Exists.intro Bool _ true ?_ | refine @Exists.intro Way _ .call ?_)
      all_goals (exfalso; have := of_decide_eq_true ‹decide ((j : Int) < rows.length) = true›; omega)
end Go.Proofs.Ytijjagkeaehhbaa.Eng
