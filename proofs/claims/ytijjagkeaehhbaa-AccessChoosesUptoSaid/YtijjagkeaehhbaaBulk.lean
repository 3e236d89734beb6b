/- The bulk of the given rows as a measure of readings, and lists of rows as lists of what they say. Each statement bears its conditions. -/
import Derived.Test.YtijjagkeaehhbaaRows
import Derived.Test.YtijjagkeaehhbaaRd
import Derived.Test.YtijjagkeaehhbaaAma
set_option linter.unusedSimpArgs false
set_option linter.unusedVariables false
namespace Go.Proofs.Ytijjagkeaehhbaa.Eng

theorem bulkAll_sum {H : Type} : ∀ l : List (DataW H), Rows.uptoBulkAll l = (l.map Rows.uptoBulk).sum
  | [] => by simp [Rows.uptoBulkAll]
  | d :: r => by rw [Rows.uptoBulkAll, bulkAll_sum r, List.map_cons, List.sum_cons]
theorem mu (H : Type) : Mu (Rows.uptoBulk (H := H)) := by
  refine ⟨fun l => ?_, fun l => by simp [Rows.uptoBulk], by simp [Rows.uptoBulk], fun e s => ?_, fun l => ?_⟩
  · cases l <;> simp [Rows.uptoBulk]
  · rw [Rows.uptoBulk, ← bulkAll_sum]; omega
  · rw [Rows.uptoBulk, ← bulkAll_sum]; omega
theorem bulk_bound {H : Type} {l : List (DataW H)} (hk : Rows.uptoSmall H l = true) : Rows.uptoBulkAll l ≤ 1048576 := of_decide_eq_true hk

theorem bulkP_pos (p : PV) : 1 ≤ bulkP p := by cases p <;> simp [bulkP]
theorem bulkRs_len : ∀ rows : List (List PV), (∀ r ∈ rows, r ≠ []) → rows.length ≤ bulkRs rows
  | [], _ => by simp [bulkRs]
  | r :: l, h => by
    have h1 := bulkRs_len l fun x hx => h x (List.mem_cons_of_mem _ hx)
    have h2 : 1 ≤ bulkPs r := by
      cases r with
      | nil => exact absurd rfl (h [] (List.mem_cons_self ..))
      | cons p q => rw [bulkPs]; have := bulkP_pos p; omega
    rw [bulkRs, List.length_cons]
    omega
theorem map_of {α : Type} (f : α → List PV) : ∀ rows : List (List PV), (∀ r ∈ rows, ∃ x, r = f x) → ∃ l : List α, rows = l.map f
  | [], _ => ⟨[], rfl⟩
  | r :: l, h => by
    obtain ⟨x, hx⟩ := h r (List.mem_cons_self ..)
    obtain ⟨m, hm⟩ := map_of f l fun y hy => h y (List.mem_cons_of_mem _ hy)
    exact ⟨x :: m, by rw [List.map_cons, hx, hm]⟩
theorem rows_ints {P : Program} {L : List Nat} {N : Nat} {rows : List (List PV)} (h : ∀ r ∈ rows, Shp P L N [.int .i64] r) : ∃ ks : List Int, rows = keyRows ks :=
  map_of (fun k => [I k]) rows fun r hr => by
    have := h r hr
    cases this with | @int _ k _ _ _ s => cases s; exact ⟨k, rfl⟩
theorem rows_vals {P : Program} {L : List Nat} {N : Nat} {rows : List (List PV)} (h : ∀ r ∈ rows, Shp P L N [.int .i64, .int .i64, .str] r) : ∃ l : List Vl, rows = l.map Vl.row :=
  map_of Vl.row rows fun r hr => by
    have := h r hr
    cases this with | @int _ k _ _ _ s =>
    cases s with | @int _ i _ _ _ s =>
    cases s with | @str t _ _ _ s =>
    cases s
    exact ⟨⟨k, i, t⟩, rfl⟩
end Go.Proofs.Ytijjagkeaehhbaa.Eng
