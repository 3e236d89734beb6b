/- Rows of expressions, columns and foreign keys as lists of what they say. Each statement bears its conditions. -/
import Derived.Test.YtijjagkeaehhbaaBulk
import Derived.Test.YtijjagkeaehhbaaAno
set_option linter.unusedSimpArgs false
set_option linter.unusedVariables false
namespace Go.Proofs.Ytijjagkeaehhbaa.Eng

section
variable {P : Program} {L : List Nat} {N : Nat}
theorem bulkRs_mem : ∀ {rows : List (List PV)} {r : List PV}, r ∈ rows → bulkPs r ≤ bulkRs rows
  | x :: l, r, h => by
    rw [bulkRs]
    rcases List.mem_cons.1 h with rfl | h
    · omega
    · have := bulkRs_mem h; omega
theorem exs_of : ∀ rows : List (List PV), (∀ r ∈ rows, ∃ e : Ex, r = e.row ∧ e.slim ∧ (conjE e).length ≤ bulkPs r) → ∃ l : List Ex, rows = exRows l ∧ slimL l ∧ (conjL l).length ≤ bulkRs rows
  | [], _ => ⟨[], rfl, trivial, Nat.zero_le _⟩
  | r :: l, h => by
    obtain ⟨e, h1, h2, h3⟩ := h r (List.mem_cons_self ..)
    obtain ⟨m, h4, h5, h6⟩ := exs_of l fun x hx => h x (List.mem_cons_of_mem _ hx)
    refine ⟨e :: m, by rw [exRows, h1, h4], ⟨h2, h5⟩, ?_⟩
    rw [conjL, List.length_append, bulkRs]
    omega
abbrev exK (te : Nat) : List CK := [.int .i64, .int .i64, .int .i64, .int .i64, .str, .str, .sl te 7]
theorem ex_of {te : Nat} (hE : flatK P L N te = some (exK te)) : ∀ (m : Nat) (r : List PV), bulkPs r ≤ m → m ≤ 1099511627776 → Shp P L N (exK te) r → ∃ e : Ex, r = e.row ∧ e.slim ∧ (conjE e).length ≤ bulkPs r
  | 0, r, hm, _, s => by
    exfalso
    cases s with | @int _ op _ _ _ s =>
    rw [bulkPs] at hm
    have := bulkP_pos (.int .i64 op)
    omega
  | m + 1, r, hm, hM, s => by
    cases s with | @int _ op _ _ _ s =>
    cases s with | @int _ n _ _ _ s =>
    cases s with | @int _ vk _ _ _ s =>
    cases s with | @int _ vi _ _ _ s =>
    cases s with | @str vt _ _ _ s =>
    cases s with | @str st _ _ _ s =>
    cases s with | @sl _ _ ke rows _ _ hk _ _ hr s =>
    cases s
    rw [hE] at hk
    cases hk
    simp only [bulkPs, bulkP] at hm ⊢
    obtain ⟨args, h1, h2, h3⟩ := exs_of rows fun r hr' => by
      have := bulkRs_mem hr'
      exact ex_of hE m r (by omega) (by omega) (hr r hr')
    have hlen := bulkRs_len rows fun r hr' => by
      have := hr r hr'
      rintro rfl
      cases this
    refine ⟨.mk op n vk vi vt st args, by rw [Ex.row, h1], ⟨?_, h2⟩, ?_⟩
    · rw [← exRows_length args, ← h1]; omega
    · rw [conjE]
      cases (op == 5 && formedB op n vk vi vt st args.length) with
      | true => rw [cond_true]; omega
      | false => rw [cond_false, List.length_singleton]; omega
theorem rows_exs {te : Nat} (hE : flatK P L N te = some (exK te)) (rows : List (List PV)) (hb : bulkRs rows ≤ 1099511627776) (h : ∀ r ∈ rows, Shp P L N (exK te) r) : ∃ l : List Ex, rows = exRows l ∧ slimL l ∧ (conjL l).length ≤ bulkRs rows :=
  exs_of rows fun r hr => ex_of hE (bulkRs rows) r (bulkRs_mem hr) hb (h r hr)
theorem rows_cos {rows : List (List PV)} (h : ∀ r ∈ rows, Shp P L N [.str, .int .i64, .bool] r) : ∃ l : List Co, rows = l.map Co.row :=
  map_of Co.row rows fun r hr => by
    have := h r hr
    cases this with | @str n _ _ _ s =>
    cases s with | @int _ k _ _ _ s =>
    cases s with | @bool z _ _ s =>
    cases s
    exact ⟨⟨n, k, z⟩, rfl⟩
theorem rows_fos {te : Nat} (hE : flatK P L N te = some [.int .i64]) {rows : List (List PV)} (h : ∀ r ∈ rows, Shp P L N [.sl te 1, .str] r) : ∃ l : List Fo, rows = l.map Fo.row :=
  map_of Fo.row rows fun r hr => by
    have := h r hr
    cases this with | @sl _ _ ke kr _ _ hk _ _ hr s =>
    cases s with | @str n _ _ _ s =>
    cases s
    rw [hE] at hk
    cases hk
    obtain ⟨ks, rfl⟩ := rows_ints hr
    exact ⟨⟨ks, n⟩, rfl⟩
theorem keyRows_len (ks : List Int) : ks.length ≤ bulkRs (keyRows ks) := by
  have h3 := bulkRs_len (keyRows ks) fun r hr => by obtain ⟨k, _, rfl⟩ := List.mem_map.1 hr; simp
  rwa [List.length_map] at h3
theorem coRows_len (cs : List Co) : cs.length ≤ bulkRs (cs.map Co.row) := by
  have h3 := bulkRs_len (cs.map Co.row) fun r hr => by obtain ⟨k, _, rfl⟩ := List.mem_map.1 hr; simp [Co.row]
  rwa [List.length_map] at h3
theorem fos_ok (fo : List Fo) (hb : bulkRs (fo.map Fo.row) ≤ 1099511627776) : ∀ f ∈ fo, foOk f := by
  intro f hf
  have h1 := bulkRs_mem (List.mem_map_of_mem (f := Fo.row) hf)
  have h2 := keyRows_len f.c
  have h3 : bulkPs f.row = bulkRs (keyRows f.c) + 1 + (f.n.size + 1 + 0) := rfl
  unfold foOk
  omega
end
end Go.Proofs.Ytijjagkeaehhbaa.Eng
