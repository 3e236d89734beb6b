/- What slices.IndexFunc (on conditions) and the key columns that a condition determines compute. Each function's arguments are its condition. -/
import Derived.Test.YtijjagkeaehhbaaAcd
set_option linter.unusedSimpArgs false
set_option linter.unusedVariables false
namespace Go.Proofs.Ytijjagkeaehhbaa.Eng
open Go.RowKit (Below)

theorem idx_no {cds : List Cd} {col : Int} (h : ∀ (i : Nat) c, cds[i]? = some c → isEq col c = false) : idxN cds col = -1 := by
  unfold idxN
  rw [List.findIdx?_eq_none_iff.2 fun c hc => by obtain ⟨i, hi⟩ := List.getElem?_of_mem hc; exact h i c hi]
theorem idx_yes {cds : List Cd} {col : Int} {j : Nat} {c : Cd} (hj : cds[j]? = some c) (hc : isEq col c = true) (h : ∀ (i : Nat) c, i < j → cds[i]? = some c → isEq col c = false) : idxN cds col = j := by
  unfold idxN
  obtain ⟨hlt, he⟩ := List.getElem?_eq_some_iff.1 hj
  rw [List.findIdx?_eq_some_iff_getElem.2 ⟨hlt, by rw [he]; exact hc, fun i hi => by
    rw [h i _ hi (List.getElem?_eq_getElem (Nat.lt_trans hi hlt))]; simp⟩]
theorem idx_cases (cds : List Cd) (col : Int) : (idxN cds col = -1 ∧ cds.find? (isEq col) = none) ∨ ∃ (i : Nat) (c : Cd), idxN cds col = i ∧ cds[i]? = some c ∧ cds.find? (isEq col) = some c := by
  cases h : cds.findIdx? (isEq col) with
  | none =>
    refine .inl ⟨by unfold idxN; rw [h], ?_⟩
    rw [List.find?_eq_none]
    intro c hc
    rw [List.findIdx?_eq_none_iff.1 h c hc]
    simp
  | some i =>
    obtain ⟨hlt, h1, h2⟩ := List.findIdx?_eq_some_iff_getElem.1 h
    refine .inr ⟨i, cds[i], by unfold idxN; rw [h], List.getElem?_eq_getElem hlt, ?_⟩
    rw [List.find?_eq_some_iff_getElem]
    exact ⟨h1, i, hlt, rfl, fun j hj => by have := h2 j hj; simpa using this⟩

theorem c_indexF (cds : List Cd) (col : Int) (hl : cds.length ≤ 9223372036854775807) : CallF Try.prog 86 [.pv (.vs 5 (cds.map Cd.row)), .lv (.clo 87 [0])] [.box 3 [li col]] (fun _ => false) (fun r objs => r = .i (idxN cds col) ∧ objs = [.box 3 [li col]]) := by
  refine callF_body T_ok mixed Try.func86 rfl (ent_of Try.func86 rfl rfl) (Nat.le_of_ble_eq_true rfl) ?_
  have hlen : (cds.map Cd.row).length = cds.length := List.length_map ..
  repeat' (first | exact True.intro | apply And.intro | (intro h; exact Bool.noConfusion h) | exact ok_op (by kernel_rfl) | exact ok_tr (by kernel_rfl) | intro _ | refine @Exists.intro Bool _ true ?_ | refine @Exists.intro Way _ .call ?_)
  refine ⟨fun m st => ∃ j : Nat, j ≤ cds.length ∧ (∀ (i : Nat) c, i < j → cds[i]? = some c → isEq col c = false) ∧ m = cds.length - j ∧ st = AS.on [(0, .pv (.vs 5 (cds.map Cd.row))), (1, .lv (.clo 87 [0])), (7, .i (cds.map Cd.row).length), (8, .i j)] [(0, .box 3 [li col])] 1 19 1 (fun _ => false), ⟨cds.length, _, ⟨0, Nat.zero_le _, fun i c hi => absurd hi (Nat.not_lt_zero _), rfl, rfl⟩, ?_⟩, ?_⟩
  · refine weak_on rfl rfl rfl rfl ?_ ?_
    · repeat' (first | exact True.intro | apply And.intro | (intro h; exact Bool.noConfusion h) | exact ok_op (by kernel_rfl) | exact ok_tr (by kernel_rfl) | intro _ | rfl | refine @Exists.intro Bool _ true ?_ | refine @Exists.intro Way _ .call ?_)
    · repeat' (first | exact True.intro | apply And.intro | (intro h; exact Bool.noConfusion h) | exact ok_op (by kernel_rfl) | exact ok_tr (by kernel_rfl) | intro _ | rfl | refine Exists.intro _ (And.intro rfl ?_) | refine @Exists.intro Bool _ true ?_ | refine @Exists.intro Way _ .call ?_)
  · rintro m st ⟨j, hj, hall, rfl, rfl⟩
    by_cases hlt : j < cds.length
    · obtain ⟨c, hc⟩ : ∃ c, cds[j]? = some c := ⟨_, List.getElem?_eq_getElem hlt⟩
      have hrow := cdRow_get hc
      have hq := c_isEq c.op c.cl c.k c.i col c.t
      cases hb : isEq col c with
      | true =>
        rw [show (c.op == 7 && c.cl == col) = true from hb] at hq
        repeat' (first | exact True.intro | apply And.intro | (intro h; exact Bool.noConfusion h) | exact ok_op (by kernel_rfl) | exact ok_tr (by kernel_rfl) | intro _ | refine Exists.intro _ (And.intro (Int.natCast_nonneg j) (And.intro hrow (And.intro rfl ?_))) | refine callR_of_frame_eq2 hq [0] rfl rfl ?_ rfl ?_ | apply fin_i | rfl | refine @Exists.intro Bool _ true ?_ | refine @Exists.intro Way _ .call ?_)
        all_goals first
          | (exfalso; have := of_decide_eq_false ‹decide ((j : Int) < (cds.map Cd.row).length) = false›; omega)
          | exact (idx_yes hc hb hall).symm
      | false =>
        rw [show (c.op == 7 && c.cl == col) = false from hb] at hq
        repeat' (first | exact True.intro | apply And.intro | (intro h; exact Bool.noConfusion h) | exact ok_op (by kernel_rfl) | exact ok_tr (by kernel_rfl) | intro _ | refine Exists.intro _ (And.intro (Int.natCast_nonneg j) (And.intro hrow (And.intro rfl ?_))) | refine callR_of_frame_eq2 hq [0] rfl rfl ?_ rfl ?_ | apply fin_i | rfl | refine @Exists.intro Bool _ true ?_ | refine @Exists.intro Way _ .call ?_)
        all_goals first
          | (exfalso; have := of_decide_eq_false ‹decide ((j : Int) < (cds.map Cd.row).length) = false›; omega)
          | skip
        refine ⟨cds.length - (j + 1), _, by omega, ⟨j + 1, hlt, fun i c' hi hc' => ?_, rfl, rfl⟩, weak_on rfl rfl rfl rfl ?_ ?_⟩
        · rcases Nat.lt_succ_iff_lt_or_eq.1 hi with h | h
          · exact hall i c' h hc'
          · subst h; rw [hc] at hc'; cases hc'; exact hb
        · repeat' (first | exact True.intro | apply And.intro | (intro h; exact Bool.noConfusion h) | exact ok_op (by kernel_rfl) | exact ok_tr (by kernel_rfl) | intro _ | rfl | (apply fin_i; rw [wrap_id] <;> omega) | refine @Exists.intro Bool _ true ?_ | refine @Exists.intro Way _ .call ?_)
        · repeat' (first | exact True.intro | apply And.intro | (intro h; exact Bool.noConfusion h) | exact ok_op (by kernel_rfl) | exact ok_tr (by kernel_rfl) | intro _ | rfl | refine Exists.intro _ (And.intro rfl ?_) | refine @Exists.intro Bool _ true ?_ | refine @Exists.intro Way _ .call ?_)
    · have hje : j = cds.length := by omega
      repeat' (first | exact True.intro | apply And.intro | (intro h; exact Bool.noConfusion h) | exact ok_op (by kernel_rfl) | exact ok_tr (by kernel_rfl) | intro _ | apply fin_i | rfl | refine @Exists.intro Bool _ true ?_ | refine @Exists.intro Way _ .call ?_)
      all_goals first
        | (exfalso; have := of_decide_eq_true ‹decide ((j : Int) < (cds.map Cd.row).length) = true›; omega)
        | (symm; apply idx_no; intro i c hc; exact hall i c (by have := (List.getElem?_eq_some_iff.1 hc).1; omega) hc)

def Cd.val (c : Cd) : List PV := [I c.k, I c.i, .str c.t]
/-- The values that the conditions give to the first columns of a key. -/
def pfx (cds : List Cd) : List Int → List (List PV)
  | [] => []
  | k :: r => match cds.find? (isEq k) with
    | some c => c.val :: pfx cds r
    | none => []
theorem pfx_le (cds : List Cd) : ∀ ks, (pfx cds ks).length ≤ ks.length
  | [] => Nat.le_refl _
  | k :: r => by
    unfold pfx
    split
    · simpa using pfx_le cds r
    · simp
abbrev keyRows (ks : List Int) : List (List PV) := ks.map fun k => [I k]
theorem keyRow_get {ks : List Int} {j : Nat} {k : Int} (h : ks[j]? = some k) : (keyRows ks)[((j : Nat) : Int).toNat]? = some [I k] := by
  have : ((j : Nat) : Int).toNat = j := rfl
  rw [this, List.getElem?_map, h]; rfl
abbrev tabA (nm cols : PV) (ks : List Int) (fo ch : PV) : AV := .agg [.pv nm, .pv cols, .pv (.vs 1 (keyRows ks)), .pv fo, .pv ch]

theorem c_prefix (nm cols : PV) (ks : List Int) (fo ch : PV) (e : Ex) (hf : e.fits) (hb : (leaves e).length ≤ 1099511627776) (hk : ks.length ≤ 1099511627776) : AFunR Try.prog 47 [tabA nm cols ks fo ch, .agg (pvs e.row)] (fun r => r = .pv (.vs 3 (pfx (leavesC e) ks))) := by
  have hcond := c_conditions e hf hb
  rw [leaves_cd, List.length_map] at hb
  rw [leaves_cd] at hcond
  have hklen : (keyRows ks).length = ks.length := List.length_map ..
  generalize leavesC e = cds at hcond hb ⊢
  obtain ⟨op, n, vk, vi, vt, s, args⟩ := e
  refine afun_body T_ok mixed Try.func47 rfl (ent_of Try.func47 rfl rfl) (Nat.le_of_ble_eq_true rfl) ?_
  repeat' (first | exact True.intro | apply And.intro | (intro h; exact Bool.noConfusion h) | exact ok_op (by kernel_rfl) | exact ok_tr (by kernel_rfl) | intro _ | refine callR_of_fun hcond.afun rfl ?_ | refine @Exists.intro Bool _ true ?_ | refine @Exists.intro Way _ .call ?_)
  refine ⟨fun m st => ∃ (j : Nat) (out : List (List PV)), j ≤ ks.length ∧ out.length = j ∧ out ++ pfx cds (ks.drop j) = pfx cds ks ∧ m = ks.length - j ∧ st = AS.on [(5, .pv (.vs 5 (cds.map Cd.row))), (6, .lv (.sl 2)), (13, .pv (.vs 1 (keyRows ks))), (14, .i (keyRows ks).length), (15, .i j)] [(2, .row 29 3 out)] 3 34 0 (fun _ => false), ⟨ks.length, _, ⟨0, [], Nat.zero_le _, rfl, rfl, rfl, rfl⟩, ?_⟩, ?_⟩
  · refine (weak_adopt (d := 6) (t := 29) (sz := 3) rfl).trans (weak_on rfl rfl rfl rfl ?_ ?_)
    · repeat' (first | exact True.intro | apply And.intro | (intro h; exact Bool.noConfusion h) | exact ok_op (by kernel_rfl) | exact ok_tr (by kernel_rfl) | intro _ | rfl | refine @Exists.intro Bool _ true ?_ | refine @Exists.intro Way _ .call ?_)
    · repeat' (first | exact True.intro | apply And.intro | (intro h; exact Bool.noConfusion h) | exact ok_op (by kernel_rfl) | exact ok_tr (by kernel_rfl) | intro _ | rfl | refine Exists.intro _ (And.intro rfl ?_) | refine @Exists.intro Bool _ true ?_ | refine @Exists.intro Way _ .call ?_)
  · rintro m st ⟨j, out, hj, ho, heq, rfl, rfl⟩
    by_cases hlt : j < ks.length
    · obtain ⟨k, hk1⟩ : ∃ k, ks[j]? = some k := ⟨_, List.getElem?_eq_getElem hlt⟩
      have hrow := keyRow_get hk1
      have hix := c_indexF cds k (by omega)
      have hdrop : ks.drop j = k :: ks.drop (j + 1) := by
        rw [List.drop_eq_getElem_cons hlt]
        rw [List.getElem?_eq_getElem hlt] at hk1
        rw [Option.some.inj hk1]
      rw [hdrop] at heq
      rcases idx_cases cds k with ⟨h1, h2⟩ | ⟨i, c, h1, h2, h3⟩
      · rw [h1] at hix
        rw [pfx, h2, List.append_nil] at heq
        repeat' (first | exact True.intro | apply And.intro | (intro h; exact Bool.noConfusion h) | exact ok_op (by kernel_rfl) | exact ok_tr (by kernel_rfl) | intro _ | refine Exists.intro _ (And.intro (Int.natCast_nonneg j) (And.intro hrow (And.intro rfl ?_))) | refine callR_of_frame_eq2 hix [3] rfl rfl ?_ rfl ?_ | apply fin_vs | rfl | refine @Exists.intro Bool _ true ?_ | refine @Exists.intro Way _ .call ?_)
        all_goals first
          | (exfalso; have := of_decide_eq_false ‹decide ((j : Int) < (keyRows ks).length) = false›; omega)
          | (exfalso; have := of_decide_eq_false ‹decide ((-1 : Int) < 0) = false›; omega)
          | exact ⟨heq⟩
          | exact heq
      · rw [h1] at hix
        rw [pfx, h3] at heq
        have hcrow := cdRow_get h2
        repeat' (first | exact True.intro | apply And.intro | (intro h; exact Bool.noConfusion h) | exact ok_op (by kernel_rfl) | exact ok_tr (by kernel_rfl) | intro _ | refine Exists.intro _ (And.intro (Int.natCast_nonneg j) (And.intro hrow (And.intro rfl ?_))) | refine Exists.intro _ (And.intro (Int.natCast_nonneg i) (And.intro hcrow (And.intro rfl ?_))) | refine callR_of_frame_eq2 hix [3] rfl rfl ?_ rfl ?_ | apply fin_vs | rfl | (simp only [chunk, List.length_cons, List.length_nil, ti29]; omega) | refine @Exists.intro Bool _ true ?_ | refine @Exists.intro Way _ .call ?_)
        all_goals first
          | (exfalso; have := of_decide_eq_false ‹decide ((j : Int) < (keyRows ks).length) = false›; omega)
          | (exfalso; have := of_decide_eq_true ‹decide ((i : Int) < 0) = true›; omega)
          | skip
        refine ⟨ks.length - (j + 1), _, by omega, ⟨j + 1, out ++ [c.val], hlt, by simp [ho], by rw [← heq]; simp, rfl, rfl⟩, weak_on rfl rfl rfl rfl ?_ ?_⟩
        · repeat' (first | exact True.intro | apply And.intro | (intro h; exact Bool.noConfusion h) | exact ok_op (by kernel_rfl) | exact ok_tr (by kernel_rfl) | intro _ | rfl | (apply fin_i; rw [wrap_id] <;> omega) | refine @Exists.intro Bool _ true ?_ | refine @Exists.intro Way _ .call ?_)
        · repeat' (first | exact True.intro | apply And.intro | (intro h; exact Bool.noConfusion h) | exact ok_op (by kernel_rfl) | exact ok_tr (by kernel_rfl) | intro _ | rfl | refine Exists.intro _ (And.intro rfl ?_) | refine @Exists.intro Bool _ true ?_ | refine @Exists.intro Way _ .call ?_)
    · have hje : j = ks.length := by omega
      rw [hje, List.drop_length, pfx, List.append_nil] at heq
      repeat' (first | exact True.intro | apply And.intro | (intro h; exact Bool.noConfusion h) | exact ok_op (by kernel_rfl) | exact ok_tr (by kernel_rfl) | intro _ | apply fin_vs | rfl | refine @Exists.intro Bool _ true ?_ | refine @Exists.intro Way _ .call ?_)
      all_goals first
        | (exfalso; have := of_decide_eq_true ‹decide ((j : Int) < (keyRows ks).length) = true›; omega)
        | exact ⟨heq⟩
        | exact heq

end Go.Proofs.Ytijjagkeaehhbaa.Eng
