/- What the key of a row, the kinds of paths and both Matches compute. Each function's arguments are its condition. -/
import Derived.Test.YtijjagkeaehhbaaAmb
set_option linter.unusedSimpArgs false
set_option linter.unusedVariables false
namespace Go.Proofs.Ytijjagkeaehhbaa.Eng
open Go.RowKit (Below)

theorem meth_of {P : Program} {name : String} {t f : Nat} {ps : List PV} (hm : ∀ (w : World) (vs : Array Value), (method (P.types.size + Made.depth) t (.agg vs) name).run P w = .ok (f, .agg vs) w) : MethR P name (.pv (.ifa t ps)) f (.agg (pvs ps)) := by
  constructor
  intro w S σ n v hv
  obtain ⟨vs, rfl, hl⟩ := iface_at hv
  refine ⟨.agg vs, .one (.agg hl), fun args => ?_⟩
  have h0 : (#[Value.iface t (.agg vs)] ++ args)[0]? = some (.iface t (.agg vs)) := by rw [Array.getElem?_append_left (by simp)]; rfl
  have h1 : (#[Value.iface t (.agg vs)] ++ args).extract 1 (#[Value.iface t (.agg vs)] ++ args).size = args := by
    apply Array.ext'
    simp
  have hp : (program).run P w = .ok P w := rfl
  simp only [invoke, h0, callMethod, h1, Sem.run_bind, hp, Result.andThen_ok, hm]
theorem m_scan {ps : List PV} : MethR Try.prog "bitemporal/access.has" (.pv (.ifa 138 ps)) 175 (.agg (pvs ps)) := meth_of fun _ _ => by kernel_rfl
theorem m_keyed {ps : List PV} : MethR Try.prog "bitemporal/access.has" (.pv (.ifa 101 ps)) 169 (.agg (pvs ps)) := meth_of fun _ _ => by kernel_rfl
theorem m_valid {ps : List PV} : MethR Try.prog "bitemporal/access.has" (.pv (.ifa 97 ps)) 164 (.agg (pvs ps)) := meth_of fun _ _ => by kernel_rfl
theorem m_rect {ps : List PV} : MethR Try.prog "bitemporal/access.has" (.pv (.ifa 99 ps)) 167 (.agg (pvs ps)) := meth_of fun _ _ => by kernel_rfl

def overB (a b c d : Int) : Bool := validB a b && validB c d && decide (a < d) && decide (c < b)
theorem c_overlaps (a b c d : Int) : AFunR Try.prog 165 [per a b, per c d] (fun r => r = .b (overB a b c d)) := by
  refine afun_body T_ok mixed Try.func165 rfl (ent_of Try.func165 rfl rfl) (Nat.le_of_ble_eq_true rfl) ?_
  repeat' (first | exact True.intro | apply And.intro | (intro h; exact Bool.noConfusion h) | exact ok_op (by kernel_rfl) | exact ok_tr (by kernel_rfl) | intro _ | refine callR_of_fun (c_valid _ _).afun rfl ?_ | apply fin_b | refine @Exists.intro Bool _ true ?_ | refine @Exists.intro Way _ .call ?_)
  all_goals (unfold overB; grind)
theorem c_rvalid (x y : Int) : AFunR Try.prog 43 [per x y] (fun r => r = .b (validB x y)) := by
  refine afun_body T_ok mixed Try.func43 rfl (ent_of Try.func43 rfl rfl) (Nat.le_of_ble_eq_true rfl) ?_
  repeat' (first | exact True.intro | apply And.intro | (intro h; exact Bool.noConfusion h) | exact ok_op (by kernel_rfl) | exact ok_tr (by kernel_rfl) | intro _ | apply fin_b | refine @Exists.intro Bool _ true ?_ | refine @Exists.intro Way _ .call ?_)
  all_goals (unfold validB; grind)
theorem c_roverlaps (a b c d : Int) : AFunR Try.prog 57 [per a b, per c d] (fun r => r = .b (overB a b c d)) := by
  refine afun_body T_ok mixed Try.func57 rfl (ent_of Try.func57 rfl rfl) (Nat.le_of_ble_eq_true rfl) ?_
  repeat' (first | exact True.intro | apply And.intro | (intro h; exact Bool.noConfusion h) | exact ok_op (by kernel_rfl) | exact ok_tr (by kernel_rfl) | intro _ | refine callR_of_fun (c_rvalid _ _).afun rfl ?_ | apply fin_b | refine @Exists.intro Bool _ true ?_ | refine @Exists.intro Way _ .call ?_)
  all_goals (unfold overB; grind)

def nullV : Vl := ⟨0, 0, ⟨#[]⟩⟩
theorem c_null : AFunR Try.prog 173 [] (fun r => r = nullV.agg) := by
  refine afun_body T_ok mixed Try.func173 rfl (ent_of Try.func173 rfl rfl) (Nat.le_of_ble_eq_true rfl) ?_
  repeat' (first | exact True.intro | apply And.intro | (intro h; exact Bool.noConfusion h) | exact ok_op (by kernel_rfl) | exact ok_tr (by kernel_rfl) | intro _ | rfl | refine @Exists.intro Bool _ true ?_ | refine @Exists.intro Way _ .call ?_)
theorem c_rnull : AFunR Try.prog 132 [] (fun r => r = nullV.agg) := by
  refine afun_body T_ok mixed Try.func132 rfl (ent_of Try.func132 rfl rfl) (Nat.le_of_ble_eq_true rfl) ?_
  repeat' (first | exact True.intro | apply And.intro | (intro h; exact Bool.noConfusion h) | exact ok_op (by kernel_rfl) | exact ok_tr (by kernel_rfl) | intro _ | rfl | refine @Exists.intro Bool _ true ?_ | refine @Exists.intro Way _ .call ?_)
def pickV (row : List Vl) (k : Int) : Vl := if k < 0 then nullV else match row[k.toNat]? with | some v => v | none => nullV
theorem pick_cases (row : List Vl) (k : Int) : ((decide (k < 0) || decide (k ≥ (row.map Vl.row).length)) = true ∧ pickV row k = nullV) ∨ (¬ k < 0 ∧ ¬ k ≥ (row.map Vl.row).length ∧ 0 ≤ k ∧ ∃ v, (row.map Vl.row)[k.toNat]? = some (Vl.row v) ∧ pickV row k = v) := by
  by_cases h : k < 0
  · exact .inl ⟨by simp [h], by simp [pickV, h]⟩
  · by_cases h2 : k ≥ (row.map Vl.row).length
    · refine .inl ⟨by rw [Bool.or_eq_true, decide_eq_true_eq, decide_eq_true_eq]; exact .inr h2, ?_⟩
      rw [List.length_map] at h2
      rw [pickV, if_neg h, List.getElem?_eq_none (by omega)]
    · right
      rw [List.length_map] at h2
      have hlt : k.toNat < row.length := by omega
      refine ⟨h, by simpa using h2, by omega, row[k.toNat], by rw [List.getElem?_map, List.getElem?_eq_getElem hlt]; rfl, ?_⟩
      rw [pickV, if_neg h, List.getElem?_eq_getElem hlt]
theorem c_at (row : List Vl) (k : Int) : AFunR Try.prog 172 [vlA row, .i k] (fun r => r = (pickV row k).agg) := by
  refine afun_body T_ok mixed Try.func172 rfl (ent_of Try.func172 rfl rfl) (Nat.le_of_ble_eq_true rfl) ?_
  rcases pick_cases row k with ⟨h1, h2⟩ | ⟨h1, h1', h2, v, h3, h4⟩
  · rw [h2]
    repeat' (first | exact True.intro | apply And.intro | (intro h; exact Bool.noConfusion h) | exact ok_op (by kernel_rfl) | exact ok_tr (by kernel_rfl) | intro _ | refine callR_of_fun c_null.afun rfl ?_ | exact rfl | refine @Exists.intro Bool _ true ?_ | refine @Exists.intro Way _ .call ?_)
    all_goals (exfalso; first | (simp_all; done) | (simp_all; omega))
  · rw [h4]
    repeat' (first | exact True.intro | apply And.intro | (intro h; exact Bool.noConfusion h) | exact ok_op (by kernel_rfl) | exact ok_tr (by kernel_rfl) | intro _ | refine callR_of_fun c_null.afun rfl ?_ | refine Exists.intro _ (And.intro h2 (And.intro h3 (And.intro rfl ?_))) | exact rfl | refine @Exists.intro Bool _ true ?_ | refine @Exists.intro Way _ .call ?_)
    all_goals (exfalso; first | (simp_all; done) | (simp_all; omega))
theorem c_rat (row : List Vl) (k : Int) : AFunR Try.prog 118 [vlA row, .i k] (fun r => r = (pickV row k).agg) := by
  refine afun_body T_ok mixed Try.func118 rfl (ent_of Try.func118 rfl rfl) (Nat.le_of_ble_eq_true rfl) ?_
  rcases pick_cases row k with ⟨h1, h2⟩ | ⟨h1, h1', h2, v, h3, h4⟩
  · rw [h2]
    repeat' (first | exact True.intro | apply And.intro | (intro h; exact Bool.noConfusion h) | exact ok_op (by kernel_rfl) | exact ok_tr (by kernel_rfl) | intro _ | refine callR_of_fun c_rnull.afun rfl ?_ | exact rfl | refine @Exists.intro Bool _ true ?_ | refine @Exists.intro Way _ .call ?_)
    all_goals (exfalso; first | (simp_all; done) | (simp_all; omega))
  · rw [h4]
    repeat' (first | exact True.intro | apply And.intro | (intro h; exact Bool.noConfusion h) | exact ok_op (by kernel_rfl) | exact ok_tr (by kernel_rfl) | intro _ | refine callR_of_fun c_rnull.afun rfl ?_ | refine Exists.intro _ (And.intro h2 (And.intro h3 (And.intro rfl ?_))) | exact rfl | refine @Exists.intro Bool _ true ?_ | refine @Exists.intro Way _ .call ?_)
    all_goals (exfalso; first | (simp_all; done) | (simp_all; omega))
def keyV (row : List Vl) (ks : List Int) : List Vl := ks.map (pickV row)
theorem c_pick (row : List Vl) (ks : List Int) (hk : ks.length ≤ 1099511627776) : AFunR Try.prog 171 [vlA row, .pv (.vs 1 (keyRows ks))] (fun r => r = vlA (keyV row ks)) := by
  have hklen : (keyRows ks).length = ks.length := List.length_map ..
  refine afun_body T_ok mixed Try.func171 rfl (ent_of Try.func171 rfl rfl) (Nat.le_of_ble_eq_true rfl) ?_
  repeat' (first | exact True.intro | apply And.intro | (intro h; exact Bool.noConfusion h) | exact ok_op (by kernel_rfl) | exact ok_tr (by kernel_rfl) | intro _ | rfl | exact Int.natCast_nonneg _ | (simp only [ti29, Int.toNat_natCast]; omega) | (rw [Int.toNat_natCast]; omega) | refine @Exists.intro Bool _ true ?_ | refine @Exists.intro Way _ .call ?_)
  refine ⟨fun m st => ∃ (j : Nat) (out : List (List PV)), j ≤ ks.length ∧ out = (keyV row (ks.take j)).map Vl.row ∧ m = ks.length - j ∧ st = AS.on [(0, vlA row), (5, .lv (.sl 0)), (11, .pv (.vs 1 (keyRows ks))), (12, .i (keyRows ks).length), (13, .i j)] [(0, .row 29 3 out)] 1 25 0 (fun _ => false), ⟨ks.length, _, ⟨0, [], Nat.zero_le _, rfl, rfl, rfl⟩, ?_⟩, ?_⟩
  · refine weak_on rfl rfl rfl rfl ?_ ?_
    · repeat' (first | exact True.intro | apply And.intro | (intro h; exact Bool.noConfusion h) | exact ok_op (by kernel_rfl) | exact ok_tr (by kernel_rfl) | intro _ | rfl | refine @Exists.intro Bool _ true ?_ | refine @Exists.intro Way _ .call ?_)
    · repeat' (first | exact True.intro | apply And.intro | (intro h; exact Bool.noConfusion h) | exact ok_op (by kernel_rfl) | exact ok_tr (by kernel_rfl) | intro _ | rfl | refine Exists.intro _ (And.intro rfl ?_) | refine @Exists.intro Bool _ true ?_ | refine @Exists.intro Way _ .call ?_)
  · rintro m st ⟨j, out, hj, hout, rfl, rfl⟩
    by_cases hlt : j < ks.length
    · obtain ⟨k, hk1⟩ : ∃ k, ks[j]? = some k := ⟨_, List.getElem?_eq_getElem hlt⟩
      have hrow := keyRow_get hk1
      have hat := c_at row k
      have hlen : out.length = j := by rw [hout, List.length_map, keyV, List.length_map, List.length_take]; omega
      have hnext : out ++ [(pickV row k).row] = (keyV row (ks.take (j + 1))).map Vl.row := by
        rw [List.take_add_one, hk1, hout]
        simp [keyV]
      generalize pickV row k = v at hat hnext
      obtain ⟨vk, vi, vt⟩ := v
      repeat' (first | exact True.intro | apply And.intro | (intro h; exact Bool.noConfusion h) | exact ok_op (by kernel_rfl) | exact ok_tr (by kernel_rfl) | intro _ | refine Exists.intro _ (And.intro (Int.natCast_nonneg j) (And.intro hrow (And.intro rfl ?_))) | refine callR_of_fun hat.afun rfl ?_ | refine @Exists.intro Bool _ false ?_ | rfl | (simp only [chunk, List.length_cons, List.length_nil, ti29]; omega) | refine @Exists.intro Bool _ true ?_ | refine @Exists.intro Way _ .call ?_)
      all_goals first
        | (exfalso; have := of_decide_eq_false ‹decide ((j : Int) < (keyRows ks).length) = false›; omega)
        | skip
      refine ⟨ks.length - (j + 1), _, by omega, ⟨j + 1, _, hlt, hnext, rfl, rfl⟩, ?_⟩
      refine weak_on rfl rfl rfl rfl ?_ ?_
      · repeat' (first | exact True.intro | apply And.intro | (intro h; exact Bool.noConfusion h) | exact ok_op (by kernel_rfl) | exact ok_tr (by kernel_rfl) | intro _ | rfl | (apply fin_i; rw [wrap_id] <;> omega) | refine @Exists.intro Bool _ true ?_ | refine @Exists.intro Way _ .call ?_)
      · repeat' (first | exact True.intro | apply And.intro | (intro h; exact Bool.noConfusion h) | exact ok_op (by kernel_rfl) | exact ok_tr (by kernel_rfl) | intro _ | rfl | refine Exists.intro _ (And.intro rfl ?_) | refine @Exists.intro Bool _ true ?_ | refine @Exists.intro Way _ .call ?_)
    · have hje : j = ks.length := by omega
      subst hje
      rw [List.take_length] at hout
      subst hout
      repeat' (first | exact True.intro | apply And.intro | (intro h; exact Bool.noConfusion h) | exact ok_op (by kernel_rfl) | exact ok_tr (by kernel_rfl) | intro _ | exact rfl | refine @Exists.intro Bool _ true ?_ | refine @Exists.intro Way _ .call ?_)
      all_goals (exfalso; have := of_decide_eq_true ‹decide ((ks.length : Int) < (keyRows ks).length) = true›; omega)
end Go.Proofs.Ytijjagkeaehhbaa.Eng
