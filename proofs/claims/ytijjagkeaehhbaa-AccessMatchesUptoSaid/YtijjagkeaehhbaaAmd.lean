/- What the keys of rows, the kinds of paths and both Matches compute. Each function's arguments are its condition. -/
import Derived.Test.YtijjagkeaehhbaaAmc
set_option linter.unusedSimpArgs false
set_option linter.unusedVariables false
namespace Go.Proofs.Ytijjagkeaehhbaa.Eng
open Go.RowKit (Below)

theorem c_rpick (row : List Vl) (ks : List Int) (hk : ks.length ≤ 1099511627776) : AFunR Try.prog 90 [vlA row, .pv (.vs 1 (keyRows ks))] (fun r => r = vlA (keyV row ks)) := by
  have hklen : (keyRows ks).length = ks.length := List.length_map ..
  refine afun_body T_ok mixed Try.func90 rfl (ent_of Try.func90 rfl rfl) (Nat.le_of_ble_eq_true rfl) ?_
  repeat' (first | exact True.intro | apply And.intro | (intro h; exact Bool.noConfusion h) | exact ok_op (by kernel_rfl) | exact ok_tr (by kernel_rfl) | intro _ | refine @Exists.intro Bool _ true ?_ | refine @Exists.intro Way _ .call ?_)
  refine ⟨fun m st => ∃ (j : Nat) (out : List (List PV)), j ≤ ks.length ∧ out = (keyV row (ks.take j)).map Vl.row ∧ m = ks.length - j ∧ st = AS.on [(0, vlA row), (1, .pv (.vs 1 (keyRows ks))), (5, .lv (.sl 0)), (6, .i j)] [(0, .row 29 3 out)] 1 24 0 (fun _ => false), ⟨ks.length, _, ⟨0, [], Nat.zero_le _, rfl, rfl, rfl⟩, ?_⟩, ?_⟩
  · refine weak_on rfl rfl rfl rfl ?_ ?_
    · repeat' (first | exact True.intro | apply And.intro | (intro h; exact Bool.noConfusion h) | exact ok_op (by kernel_rfl) | exact ok_tr (by kernel_rfl) | intro _ | rfl | refine @Exists.intro Bool _ true ?_ | refine @Exists.intro Way _ .call ?_)
    · repeat' (first | exact True.intro | apply And.intro | (intro h; exact Bool.noConfusion h) | exact ok_op (by kernel_rfl) | exact ok_tr (by kernel_rfl) | intro _ | rfl | refine Exists.intro _ (And.intro rfl ?_) | refine @Exists.intro Bool _ true ?_ | refine @Exists.intro Way _ .call ?_)
  · rintro m st ⟨j, out, hj, hout, rfl, rfl⟩
    by_cases hlt : j < ks.length
    · obtain ⟨k, hk1⟩ : ∃ k, ks[j]? = some k := ⟨_, List.getElem?_eq_getElem hlt⟩
      have hrow := keyRow_get hk1
      have hat := c_rat row k
      have hlen : out.length = j := by rw [hout, List.length_map, keyV, List.length_map, List.length_take]; omega
      have hnext : out ++ [(pickV row k).row] = (keyV row (ks.take (j + 1))).map Vl.row := by
        rw [List.take_add_one, hk1, hout]
        simp [keyV]
      generalize pickV row k = v at hat hnext
      obtain ⟨vk, vi, vt⟩ := v
      repeat' (first | exact True.intro | apply And.intro | (intro h; exact Bool.noConfusion h) | exact ok_op (by kernel_rfl) | exact ok_tr (by kernel_rfl) | intro _ | refine Exists.intro _ (And.intro (Int.natCast_nonneg j) (And.intro hrow (And.intro rfl ?_))) | refine callR_of_fun hat.afun rfl ?_ | refine @Exists.intro Bool _ false ?_ | rfl | (simp only [chunk, List.length_cons, List.length_nil, ti29]; omega) | refine @Exists.intro Bool _ true ?_ | refine @Exists.intro Way _ .call ?_)
      all_goals first
        | (exfalso; have := of_decide_eq_false ‹decide ((j : Int) < (keyRows ks).length) = false›; omega)
        | skip
      refine ⟨ks.length - (j + 1), _, by omega, ⟨j + 1, _, hlt, hnext, rfl, rfl⟩, ?_⟩
      refine weak_on rfl rfl rfl rfl ?_ ?_
      · repeat' (first | exact True.intro | apply And.intro | (intro h; exact Bool.noConfusion h) | exact ok_op (by kernel_rfl) | exact ok_tr (by kernel_rfl) | intro _ | rfl | (apply fin_i; rw [wrap_id] <;> omega) | refine @Exists.intro Bool _ true ?_ | refine @Exists.intro Way _ .call ?_)
      · repeat' (first | exact True.intro | apply And.intro | (intro h; exact Bool.noConfusion h) | exact ok_op (by kernel_rfl) | exact ok_tr (by kernel_rfl) | intro _ | rfl | refine Exists.intro _ (And.intro rfl ?_) | refine @Exists.intro Bool _ true ?_ | refine @Exists.intro Way _ .call ?_)
    · have hje : j = ks.length := by omega
      subst hje
      rw [List.take_length] at hout
      subst hout
      repeat' (first | exact True.intro | apply And.intro | (intro h; exact Bool.noConfusion h) | exact ok_op (by kernel_rfl) | exact ok_tr (by kernel_rfl) | intro _ | exact rfl | refine @Exists.intro Bool _ true ?_ | refine @Exists.intro Way _ .call ?_)
      all_goals (exfalso; have := of_decide_eq_true ‹decide ((ks.length : Int) < (keyRows ks).length) = true›; omega)

theorem c_key (nm cols : PV) (ks : List Int) (fo ch : PV) (row : List Vl) (hk : ks.length ≤ 1099511627776) : AFunR Try.prog 170 [tabA nm cols ks fo ch, vlA row] (fun r => r = vlA (keyV row ks)) := by
  have h := c_pick row ks hk
  refine afun_body T_ok mixed Try.func170 rfl (ent_of Try.func170 rfl rfl) (Nat.le_of_ble_eq_true rfl) ?_
  repeat' (first | exact True.intro | apply And.intro | (intro h; exact Bool.noConfusion h) | exact ok_op (by kernel_rfl) | exact ok_tr (by kernel_rfl) | intro _ | refine callR_of_fun h.afun rfl ?_ | exact rfl | refine @Exists.intro Bool _ true ?_ | refine @Exists.intro Way _ .call ?_)
theorem c_rkey (nm cols : PV) (ks : List Int) (fo ch : PV) (row : List Vl) (hk : ks.length ≤ 1099511627776) : AFunR Try.prog 56 [tabA nm cols ks fo ch, vlA row] (fun r => r = vlA (keyV row ks)) := by
  have h := c_rpick row ks hk
  refine afun_body T_ok mixed Try.func56 rfl (ent_of Try.func56 rfl rfl) (Nat.le_of_ble_eq_true rfl) ?_
  repeat' (first | exact True.intro | apply And.intro | (intro h; exact Bool.noConfusion h) | exact ok_op (by kernel_rfl) | exact ok_tr (by kernel_rfl) | intro _ | refine callR_of_fun h.afun rfl ?_ | exact rfl | refine @Exists.intro Bool _ true ?_ | refine @Exists.intro Way _ .call ?_)

/-- Whether a key begins with some values. -/
def startsB (key vs : List Vl) : Bool := decide (vs.length ≤ key.length) && (rcmpR (key.take vs.length) vs == 0)
theorem take_row (a : List Vl) (n : Nat) : ((a.map Vl.row).take n).drop 0 = (a.take n).map Vl.row := by rw [List.drop_zero, ← List.map_take]
theorem c_starts (a b : List Vl) (ha : a.length ≤ 9223372036854775807) (hb : b.length ≤ 9223372036854775807) : AFunR Try.prog 55 [vlA a, vlA b] (fun r => r = .b (startsB a b)) := by
  have hla : (a.map Vl.row).length = a.length := List.length_map ..
  have hlb : (b.map Vl.row).length = b.length := List.length_map ..
  have he := c_requal (a.take b.length) b (by rw [List.length_take]; omega) hb
  rw [vlA, ← take_row, ← hlb] at he
  refine afun_body T_ok mixed Try.func55 rfl (ent_of Try.func55 rfl rfl) (Nat.le_of_ble_eq_true rfl) ?_
  by_cases hle : b.length ≤ a.length
  · repeat' (first | exact True.intro | apply And.intro | (intro h; exact Bool.noConfusion h) | exact ok_op (by kernel_rfl) | exact ok_tr (by kernel_rfl) | intro _ | refine callR_of_fun he.afun rfl ?_ | refine Exists.intro _ (And.intro (pure_slice (l := 0) (h := (b.map Vl.row).length) rfl Try.underlying39 (by kernel_rfl) (by kernel_rfl) rfl (Exists.intro _ rfl) (Nat.zero_le _) (by omega)) ?_) | apply fin_b | refine @Exists.intro Bool _ true ?_ | refine @Exists.intro Way _ .call ?_)
    · simp [startsB, hle, hlb]
    · exfalso
      have := ‹decide (((b.map Vl.row).length : Int) ≤ (a.map Vl.row).length) = !true›
      simp at this
      omega
  · repeat' (first | exact True.intro | apply And.intro | (intro h; exact Bool.noConfusion h) | exact ok_op (by kernel_rfl) | exact ok_tr (by kernel_rfl) | intro _ | apply fin_b | refine @Exists.intro Bool _ true ?_ | refine @Exists.intro Way _ .call ?_)
    · exfalso
      have := of_decide_eq_true ‹decide (((b.map Vl.row).length : Int) ≤ (a.map Vl.row).length) = true›
      omega
    · simp [startsB, hle]

abbrev verA (x y : PV) (row : List Vl) (v0 v1 s0 s1 : Int) (z u : PV) : AV := .agg [.pv x, .pv y, .pv (.vs 3 (row.map Vl.row)), li v0, li v1, li s0, li s1, .pv z, .pv u]
section
variable (nm cols : PV) (ks : List Int) (fo ch : PV) (x y : PV) (row : List Vl) (v0 v1 s0 s1 : Int) (z u : PV)

theorem c_hasScan : AFunR Try.prog 175 [.agg (pvs []), tabA nm cols ks fo ch, verA x y row v0 v1 s0 s1 z u] (fun r => r = .b true) := by
  refine afun_body T_ok mixed Try.func175 rfl (ent_of Try.func175 rfl rfl) (Nat.le_of_ble_eq_true rfl) ?_
  repeat' (first | exact True.intro | apply And.intro | (intro h; exact Bool.noConfusion h) | exact ok_op (by kernel_rfl) | exact ok_tr (by kernel_rfl) | intro _ | apply fin_b | refine @Exists.intro Bool _ true ?_ | refine @Exists.intro Way _ .call ?_)
  all_goals rfl
theorem c_hasValid (a b : Int) : AFunR Try.prog 164 [.agg (pvs [I a, I b]), tabA nm cols ks fo ch, verA x y row v0 v1 s0 s1 z u] (fun r => r = .b (overB v0 v1 a b)) := by
  refine afun_body T_ok mixed Try.func164 rfl (ent_of Try.func164 rfl rfl) (Nat.le_of_ble_eq_true rfl) ?_
  repeat' (first | exact True.intro | apply And.intro | (intro h; exact Bool.noConfusion h) | exact ok_op (by kernel_rfl) | exact ok_tr (by kernel_rfl) | intro _ | refine callR_of_fun (c_overlaps _ _ _ _).afun rfl ?_ | apply fin_b | refine @Exists.intro Bool _ true ?_ | refine @Exists.intro Way _ .call ?_)
  all_goals rfl
theorem c_hasRect (a b c d : Int) : AFunR Try.prog 167 [.agg (pvs [I a, I b, I c, I d]), tabA nm cols ks fo ch, verA x y row v0 v1 s0 s1 z u] (fun r => r = .b (overB v0 v1 a b && overB s0 s1 c d)) := by
  refine afun_body T_ok mixed Try.func167 rfl (ent_of Try.func167 rfl rfl) (Nat.le_of_ble_eq_true rfl) ?_
  repeat' (first | exact True.intro | apply And.intro | (intro h; exact Bool.noConfusion h) | exact ok_op (by kernel_rfl) | exact ok_tr (by kernel_rfl) | intro _ | refine callR_of_fun (c_overlaps _ _ _ _).afun rfl ?_ | apply fin_b | refine @Exists.intro Bool _ true ?_ | refine @Exists.intro Way _ .call ?_)
  all_goals simp_all
set_option maxRecDepth 20000 in
theorem c_hasKeyed (key : List Vl) (hk : ks.length ≤ 1099511627776) (hkey : key.length ≤ 9223372036854775807) : AFunR Try.prog 169 [.agg (pvs [.vs 3 (key.map Vl.row)]), tabA nm cols ks fo ch, verA x y row v0 v1 s0 s1 z u] (fun r => r = .b (startsB (keyV row ks) key)) := by
  have hkk := c_key nm cols ks fo ch row hk
  have hkl : (keyV row ks).length = ks.length := List.length_map ..
  generalize keyV row ks = kv at hkk hkl ⊢
  have hla : (kv.map Vl.row).length = kv.length := List.length_map ..
  have hlb : (key.map Vl.row).length = key.length := List.length_map ..
  have he := c_tcmp (kv.take key.length) key (by rw [List.length_take]; omega) hkey
  rw [vlA, ← take_row, ← hlb] at he
  refine afun_body T_ok mixed Try.func169 rfl (ent_of Try.func169 rfl rfl) (Nat.le_of_ble_eq_true rfl) ?_
  by_cases hle : key.length ≤ kv.length
  · repeat' (first | exact True.intro | apply And.intro | (intro h; exact Bool.noConfusion h) | exact ok_op (by kernel_rfl) | exact ok_tr (by kernel_rfl) | intro _ | refine callR_of_fun hkk.afun rfl ?_ | refine Exists.intro _ (And.intro he.afun (And.intro rfl ?_)) | refine Exists.intro _ (And.intro (pure_slice (l := 0) (h := (key.map Vl.row).length) rfl Try.underlying39 (by kernel_rfl) (by kernel_rfl) rfl (Exists.intro _ rfl) (Nat.zero_le _) (by omega)) ?_) | apply fin_b | refine @Exists.intro Bool _ true ?_ | refine @Exists.intro Way _ .call ?_)
    all_goals first
      | (exfalso
         have := ‹decide (((kv.map Vl.row).length : Int) ≥ (key.map Vl.row).length) = !true›
         simp at this
         omega)
      | (rw [rcmp_eq0]; simp [startsB, hle, hlb])
  · repeat' (first | exact True.intro | apply And.intro | (intro h; exact Bool.noConfusion h) | exact ok_op (by kernel_rfl) | exact ok_tr (by kernel_rfl) | intro _ | refine callR_of_fun hkk.afun rfl ?_ | refine Exists.intro _ (And.intro he.afun (And.intro rfl ?_)) | apply fin_b | rfl | refine @Exists.intro Bool _ true ?_ | refine @Exists.intro Way _ .call ?_)
    all_goals first
      | (exfalso
         have := of_decide_eq_true ‹decide (((kv.map Vl.row).length : Int) ≥ (key.map Vl.row).length) = true›
         omega)
      | simp [startsB, hle]

/-- Whether a path contains a version. -/
def matchesB (k : Int) (key : List Vl) (a b c d : Int) : Bool :=
  if k = 0 then true else if k = 1 then startsB (keyV row ks) key else if k = 2 then overB v0 v1 a b else if k = 3 then overB v0 v1 a b && overB s0 s1 c d else false
end
end Go.Proofs.Ytijjagkeaehhbaa.Eng
