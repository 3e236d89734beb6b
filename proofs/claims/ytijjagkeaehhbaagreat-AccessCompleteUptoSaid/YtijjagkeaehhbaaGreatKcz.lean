/- AccessComplete returns true for every table, expression, clause, period and version of bulk at most 1048576 together, and changes nothing that was there. The condition: the given row's bound on the arguments' bulk. -/
import Derived.Test.YtijjagkeaehhbaaGreatKcm
import Derived.Test.YtijjagkeaehhbaaGreatRows
import Derived.WalkKit
import Derived.ProofKit
import Derived.OpenShut
import Derived.ShutString
import Derived.ChangeOld
import Derived.Below
import Derived.JoinedCond
set_option linter.unusedVariables false
namespace Go.Proofs.YtijjagkeaehhbaaGreat.Complete
open Go.ChangeShapes Go.WideShapes Go.ChangeAt Go.RowKit Go.Proofs.YtijjagkeaehhbaaGreat.Eng

theorem own : ownKnob Tryz.prog.godebug = none := by kernel_rfl
theorem laidOut : laidOutB Tryz.prog = true := by kernel_rfl
abbrev L : List Nat := [29, 3, 69, 182, 31]
theorem allF : allFlat Tryz.prog L 8 L = true := by kernel_rfl
theorem flatClause : flatK Tryz.prog L 8 33 = some [.int .i64, .int .i64, .int .i64] := by kernel_rfl
theorem flatPeriod : flatK Tryz.prog L 8 35 = some [.int .i64, .int .i64] := by kernel_rfl
theorem flatExpr : flatK Tryz.prog L 8 31 = some (exK 31) := by kernel_rfl
theorem flatColumn : flatK Tryz.prog L 8 69 = some [.str, .int .i64, .bool] := by kernel_rfl
theorem flatForeign : flatK Tryz.prog L 8 182 = some [.sl 3 1, .str] := by kernel_rfl
theorem flatTable : flatK Tryz.prog L 8 27 = some [.str, .sl 69 3, .sl 3 1, .sl 182 2, .sl 31 7] := by kernel_rfl
theorem flatVersion : flatK Tryz.prog L 8 38 = some [.int .i64, .int .i64, .sl 29 3, .int .i64, .int .i64, .int .i64, .int .i64, .int .i64, .int .i64] := by kernel_rfl
theorem flatValue : flatK Tryz.prog L 8 29 = some [.int .i64, .int .i64, .str] := by kernel_rfl
theorem flatInt : flatK Tryz.prog L 8 3 = some [.int .i64] := by kernel_rfl

set_option maxRecDepth 100000 in
theorem contract (H : Type) (enc : TypeId × Value → H) (W : World) (base : Nat) (args : Array Value) (ds gs : List (DataW H)) (before : List MemPlace)
    (hval0 : ∀ (j : Nat) t v, Tryz.f3.params[j]? = some t → args[j]? = some v → Value.okWide Tryz.prog W .any base t v)
    (hW : DataW.Whole enc Tryz.prog Tryz.f3.params.toList Rows.accessCompleteSpec.vars false W args.toList ds gs before) (hk : Rows.uptoSmall H (ds ++ gs) = true) :
    Calls Tryz.prog 3 args W fun e W' => ∃ v, e = .returned v ∧ Rows.accessCompleteSpec.post enc Tryz.prog Tryz.f3 false true false false W args v W' := by
  have hval : ∀ (j : Nat) t v, Tryz.f3.params[j]? = some t → args[j]? = some v → Value.okWide Tryz.prog W .any base t v := hval0
  have hW' := hW
  obtain ⟨p, q, hA0, hV, rfl, hfz, hnd⟩ := hW
  have hA : DataW.TrodAll enc Tryz.prog W 0 (fun _ => true) true Tryz.f3.params.toList args.toList ds p := hA0
  rw [Tryz.params3] at hA hval
  obtain ⟨v0, vs0, d0, ds0, p0, q0, hargs, rfl, rfl, h0, r0⟩ := trodAll_cons hA
  obtain ⟨v1, vs1, d1, ds1, p1, q1, rfl, rfl, rfl, h1, r1⟩ := trodAll_cons r0
  obtain ⟨v2, vs2, d2, ds2, p2, q2, rfl, rfl, rfl, h2, r2⟩ := trodAll_cons r1
  obtain ⟨v3, vs3, d3, ds3, p3, q3, rfl, rfl, rfl, h3, r3⟩ := trodAll_cons r2
  obtain ⟨v4, vs4, d4, ds4, p4, q4, rfl, rfl, rfl, h4, r4⟩ := trodAll_cons r3
  obtain ⟨rfl, rfl, rfl⟩ := trodAll_nil r4
  obtain rfl : args = #[v0, v1, v2, v3, v4] := by cases args; simp_all
  obtain ⟨rfl, rfl⟩ := trodVars_none hV
  have hb := bulk_bound hk
  simp only [List.append_nil, Rows.uptoBulkAll] at hb
  have k0 := h0
  have k1 := h1
  have k2 := h2
  have k3 := h3
  have k4 := h4
  have lt0 : ∀ x ∈ p0, x.block < W.heap.size := by obtain ⟨m, hm⟩ := k0; exact DataW.trod_lt m _ _ _ hm
  have lt1 : ∀ x ∈ p1, x.block < W.heap.size := by obtain ⟨m, hm⟩ := k1; exact DataW.trod_lt m _ _ _ hm
  have lt2 : ∀ x ∈ p2, x.block < W.heap.size := by obtain ⟨m, hm⟩ := k2; exact DataW.trod_lt m _ _ _ hm
  have lt3 : ∀ x ∈ p3, x.block < W.heap.size := by obtain ⟨m, hm⟩ := k3; exact DataW.trod_lt m _ _ _ hm
  have lt4 : ∀ x ∈ p4, x.block < W.heap.size := by obtain ⟨m, hm⟩ := k4; exact DataW.trod_lt m _ _ _ hm
  obtain ⟨cs0, rfl, _⟩ := okWide_struct Tryz.underlying27 (hval 0 27 v0 rfl rfl)
  obtain ⟨cs1, rfl, _⟩ := okWide_struct Tryz.underlying31 (hval 1 31 v1 rfl rfl)
  obtain ⟨cs2, rfl, _⟩ := okWide_struct Tryz.underlying33 (hval 2 33 v2 rfl rfl)
  obtain ⟨cs3, rfl, _⟩ := okWide_struct Tryz.underlying35 (hval 3 35 v3 rfl rfl)
  obtain ⟨cs4, rfl, _⟩ := okWide_struct Tryz.underlying38 (hval 4 38 v4 rfl rfl)
  obtain ⟨fuel0, hf0⟩ := h0
  obtain ⟨fuel1, hf1⟩ := h1
  obtain ⟨fuel2, hf2⟩ := h2
  obtain ⟨fuel3, hf3⟩ := h3
  obtain ⟨fuel4, hf4⟩ := h4
  obtain ⟨ps0, s0, c0, b0⟩ := read allF (mu H) fuel0 8 27 _ _ _ flatTable hf0
  obtain ⟨ps1, s1, c1, b1⟩ := read allF (mu H) fuel1 8 31 _ _ _ flatExpr hf1
  obtain ⟨ps2, s2, c2, b2⟩ := read allF (mu H) fuel2 8 33 _ _ _ flatClause hf2
  obtain ⟨ps3, s3, c3, b3⟩ := read allF (mu H) fuel3 8 35 _ _ _ flatPeriod hf3
  obtain ⟨ps4, s4, c4, b4⟩ := read allF (mu H) fuel4 8 38 _ _ _ flatVersion hf4
  cases s0 with | @str nm _ _ _ s0 =>
  cases s0 with | @sl _ _ _ cols _ _ hce _ _ hcr s0 =>
  cases s0 with | @sl _ _ _ kr _ _ hke _ _ hkr s0 =>
  cases s0 with | @sl _ _ _ fo _ _ hfe _ _ hfr s0 =>
  cases s0 with | @sl _ _ _ ch _ _ hee _ _ her s0 =>
  cases s0
  cases s2 with | @int _ k _ _ _ s2 =>
  cases s2 with | @int _ a _ _ _ s2 =>
  cases s2 with | @int _ b _ _ _ s2 =>
  cases s2
  cases s3 with | @int _ d0' _ _ _ s3 =>
  cases s3 with | @int _ d1' _ _ _ s3 =>
  cases s3
  cases s4 with | @int _ x _ _ _ s4 =>
  cases s4 with | @int _ y _ _ _ s4 =>
  cases s4 with | @sl _ _ _ rw' _ _ hwe _ _ hrw s4 =>
  cases s4 with | @int _ t0 _ _ _ s4 =>
  cases s4 with | @int _ t1 _ _ _ s4 =>
  cases s4 with | @int _ u0 _ _ _ s4 =>
  cases s4 with | @int _ u1 _ _ _ s4 =>
  cases s4 with | @int _ z _ _ _ s4 =>
  cases s4 with | @int _ u _ _ _ s4 =>
  cases s4
  rw [flatInt] at hke
  cases hke
  rw [flatColumn] at hce
  cases hce
  rw [flatForeign] at hfe
  cases hfe
  rw [flatExpr] at hee
  cases hee
  rw [flatValue] at hwe
  cases hwe
  obtain ⟨ks, rfl⟩ := rows_ints hkr
  obtain ⟨cols, rfl⟩ := rows_cos hcr
  obtain ⟨fo, rfl⟩ := rows_fos flatInt hfr
  obtain ⟨row, rfl⟩ := rows_vals hrw
  have hb1 : bulkPs ps1 ≤ Rows.uptoBulk d1 := b1
  have hb0 := b0
  have hb4 := b4
  simp only [bulkPs, bulkP] at hb0 hb4
  obtain ⟨ch, rfl, hch, _⟩ := rows_exs flatExpr ch (by omega) her
  obtain ⟨e, rfl, he, hconj⟩ := ex_of flatExpr (bulkPs ps1) ps1 (Nat.le_refl _) (by omega) s1
  have hks : ks.length ≤ 1099511627776 := by have := keyRows_len ks; omega
  have hcs : cols.length ≤ 1099511627776 := by have := coRows_len cols; omega
  have hrl : row.length ≤ 1099511627776 := by
    have h3 := bulkRs_len (row.map Vl.row) fun r hr => by obtain ⟨k, _, rfl⟩ := List.mem_map.1 hr; simp [Vl.row]
    rw [List.length_map] at h3
    omega
  have hfo := fos_ok fo (by omega)
  have hlv : (leaves e).length ≤ 1099511627776 := by rw [← conds_leaves e he]; exact Nat.le_trans (condsL_le _) (by omega)
  have ha0 : AVR W (Old W) (fun _ => undef) 0 (tabC (.str nm) cols (.vs 1 (keyRows ks)) (.vs 2 (fo.map Fo.row)) (.vs 7 (exRows ch))) (.agg cs0) := cells_avr c0
  have ha1 : AVR W (Old W) (fun _ => undef) 0 (.agg (pvs e.row)) (.agg cs1) := cells_avr c1
  have ha2 : AVR W (Old W) (fun _ => undef) 0 (.agg [li k, li a, li b]) (.agg cs2) := cells_avr c2
  have ha3 : AVR W (Old W) (fun _ => undef) 0 (per d0' d1') (.agg cs3) := cells_avr c3
  have ha4 : AVR W (Old W) (fun _ => undef) 0 (verA (I x) (I y) row t0 t1 u0 u1 (I z) (I u)) (.agg cs4) := cells_avr c4
  refine ((c_complete nm cols ks fo ch e k a b d0' d1' x y row t0 t1 u0 u1 z u hks hcs hfo hch he hlv hrl).2 W (Old W) (fun b h => h) #[.agg cs0, .agg cs1, .agg cs2, .agg cs3, .agg cs4] rfl (fun i x hx => ?_)).mono fun e W' ⟨v, r, hr, he, bel, hv⟩ => ?_
  · match i with
    | 0 => simp at hx; subst hx; exact ⟨_, rfl, ha0⟩
    | 1 => simp at hx; subst hx; exact ⟨_, rfl, ha1⟩
    | 2 => simp at hx; subst hx; exact ⟨_, rfl, ha2⟩
    | 3 => simp at hx; subst hx; exact ⟨_, rfl, ha3⟩
    | 4 => simp at hx; subst hx; exact ⟨_, rfl, ha4⟩
    | i + 5 => simp at hx
  · subst hr he
    have hv' := hv.bool_inv
    subst hv'
    exact ⟨_, rfl, _, _, _, [], _, [], hW', trodAll_mk1 (shut_bool Tryz.underlying4 _), (trodAll_cons_mk (Below.trod laidOut (by kernel_rfl) (of_decide_eq_true (by kernel_rfl)) k0 bel lt0) (trodAll_cons_mk (Below.trod laidOut (by kernel_rfl) (of_decide_eq_true (by kernel_rfl)) k1 bel lt1) (trodAll_cons_mk (Below.trod laidOut (by kernel_rfl) (of_decide_eq_true (by kernel_rfl)) k2 bel lt2) (trodAll_cons_mk (Below.trod laidOut (by kernel_rfl) (of_decide_eq_true (by kernel_rfl)) k3 bel lt3) (trodAll_cons_mk (Below.trod laidOut (by kernel_rfl) (of_decide_eq_true (by kernel_rfl)) k4 bel lt4) trodAll_mk0))))), rfl, bel.frame _, fun h => by cases h⟩

set_option maxRecDepth 100000 in
theorem lifted (os : Os) (started : os.Started) (H : Type) (enc : TypeId × Value → H) (F : Stop.Interp) :
    ReturnsInHanded {} Tryz.checked os 3 .any ((Rows.OpenSpec.upto Rows.accessCompleteSpec).pre6 enc Tryz.prog Tryz.f3 Rows.accessCompleteUptoRow.domain false) (((Rows.OpenSpec.upto Rows.accessCompleteSpec).at F).post enc Tryz.prog Tryz.f3 false true false false) := by
  refine returnsInHanded_of_cond (C := Tryz.checked) (s := Rows.OpenSpec.upto Rows.accessCompleteSpec) (k := Rows.uptoSmall) rfl own started (by kernel_rfl) Tryz.func3
    (OpenSpec.witness (enc := enc) (C := Tryz.checked) (s := Rows.OpenSpec.upto Rows.accessCompleteSpec) (k := Rows.uptoSmall) rfl false ⟨#[], #[.agg #[.string ByteArray.empty, .slice none 0 0, .slice none 0 0, .slice none 0 0, .slice none 0 0], .agg #[.int .i64 0, .int .i64 0, .int .i64 0, .int .i64 0, .string ByteArray.empty, .string ByteArray.empty, .slice none 0 0], .agg #[.int .i64 0, .int .i64 0, .int .i64 0], .agg #[.int .i64 0, .int .i64 0], .agg #[.int .i64 0, .int .i64 0, .slice none 0 0, .int .i64 0, .int .i64 0, .int .i64 0, .int .i64 0, .int .i64 0, .int .i64 0]], []⟩ 8 (by kernel_rfl) (by kernel_rfl) (by kernel_rfl)
      (x := ([.agg [.lit (.string []), .nil, .nil, .nil, .nil], .agg [.lit (.int .i64 0), .lit (.int .i64 0), .agg [.lit (.int .i64 0), .lit (.int .i64 0), .lit (.string [])], .lit (.string []), .nil], .agg [.lit (.int .i64 0), .lit (.int .i64 0), .lit (.int .i64 0)], .agg [.lit (.int .i64 0), .lit (.int .i64 0)], .agg [.lit (.int .i64 0), .lit (.int .i64 0), .nil, .agg [.lit (.int .i64 0), .lit (.int .i64 0)], .agg [.lit (.int .i64 0), .lit (.int .i64 0)], .lit (.int .i64 0), .lit (.int .i64 0)]], [], [])) (by kernel_rfl) rfl (by kernel_rfl)) ?_
  intro W base args ds gs before hval hW _ hk _
  exact contract H enc W base args ds gs before hval hW hk

theorem over : Rows.accessCompleteUptoRow.holds Tryz.pinned (Rows.OpenSpec.upto Rows.accessCompleteSpec) :=
  OpenClaim.holds_of_cond 3 Tryz.f3 rfl rfl rfl rfl rfl rfl rfl ⟨rfl, rfl, rfl, rfl, rfl⟩ rfl rfl rfl rfl rfl (by kernel_rfl) Tryz.func3 (by kernel_rfl)
    (of_decide_eq_true (by kernel_rfl)) (by unfold Func.isWrapper; first | (rw [if_pos (by decide +kernel)]; kernel_rfl) | (rw [if_neg (by decide +kernel)]; exact ⟨rfl, rfl⟩))
    (fun os started H enc _ F => lifted os started H enc F)
theorem proved : Rows.AccessCompleteUptoSaid := over
end Go.Proofs.YtijjagkeaehhbaaGreat.Complete
namespace Go.Proofs.YtijjagkeaehhbaaGreat
/-- The row, under a short name, for the claim. -/
theorem accessComplete_holds : Rows.AccessCompleteUptoSaid := Complete.proved
#print axioms accessComplete_holds
end Go.Proofs.YtijjagkeaehhbaaGreat
