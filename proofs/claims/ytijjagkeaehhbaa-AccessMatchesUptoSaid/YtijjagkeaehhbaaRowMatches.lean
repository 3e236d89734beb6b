/- AccessMatches returns true for every table, path and version of bulk at most 1048576 together, and changes nothing that was there. The condition: the given row's bound on the arguments' bulk. -/
import Derived.Test.YtijjagkeaehhbaaRows
import Derived.Test.YtijjagkeaehhbaaAme
import Derived.Test.YtijjagkeaehhbaaRd
import Derived.Test.YtijjagkeaehhbaaBulk
import Derived.WalkKit
import Derived.ProofKit
import Derived.OpenShut
import Derived.ShutString
import Derived.ChangeOld
import Derived.Below
import Derived.JoinedCond
set_option linter.unusedVariables false
namespace Go.Proofs.Ytijjagkeaehhbaa.Matches
open Go.ChangeShapes Go.WideShapes Go.ChangeAt Go.RowKit Go.Proofs.Ytijjagkeaehhbaa.Eng

theorem own : ownKnob Try.prog.godebug = none := by kernel_rfl
theorem laidOut : laidOutB Try.prog = true := by kernel_rfl
abbrev L : List Nat := [29, 3, 84, 164, 31]
theorem allF : allFlat Try.prog L 8 L = true := by kernel_rfl
theorem flatPath : flatK Try.prog L 8 43 = some [.int .i64, .sl 29 3, .int .i64, .int .i64, .int .i64, .int .i64] := by kernel_rfl
theorem flatTable : flatK Try.prog L 8 27 = some [.str, .sl 84 3, .sl 3 1, .sl 164 2, .sl 31 7] := by kernel_rfl
theorem flatVersion : flatK Try.prog L 8 49 = some [.int .i64, .int .i64, .sl 29 3, .int .i64, .int .i64, .int .i64, .int .i64, .int .i64, .int .i64] := by kernel_rfl
theorem flatValue : flatK Try.prog L 8 29 = some [.int .i64, .int .i64, .str] := by kernel_rfl
theorem flatInt : flatK Try.prog L 8 3 = some [.int .i64] := by kernel_rfl

set_option maxRecDepth 100000 in
theorem contract (H : Type) (enc : TypeId × Value → H) (W : World) (base : Nat) (args : Array Value) (ds gs : List (DataW H)) (before : List MemPlace)
    (hval0 : ∀ (j : Nat) t v, Try.f5.params[j]? = some t → args[j]? = some v → Value.okWide Try.prog W .any base t v)
    (hW : DataW.Whole enc Try.prog Try.f5.params.toList Rows.accessMatchesSpec.vars false W args.toList ds gs before) (hk : Rows.uptoSmall H (ds ++ gs) = true) :
    Calls Try.prog 5 args W fun e W' => ∃ v, e = .returned v ∧ Rows.accessMatchesSpec.post enc Try.prog Try.f5 false true false false W args v W' := by
  have hval : ∀ (j : Nat) t v, Try.f5.params[j]? = some t → args[j]? = some v → Value.okWide Try.prog W .any base t v := hval0
  have hW' := hW
  obtain ⟨p, q, hA0, hV, rfl, hfz, hnd⟩ := hW
  have hA : DataW.TrodAll enc Try.prog W 0 (fun _ => true) true Try.f5.params.toList args.toList ds p := hA0
  rw [Try.params5] at hA hval
  obtain ⟨v0, vs0, d0, ds0, p0, q0, hargs, rfl, rfl, h0, r0⟩ := trodAll_cons hA
  obtain ⟨v1, vs1, d1, ds1, p1, q1, rfl, rfl, rfl, h1, r1⟩ := trodAll_cons r0
  obtain ⟨v2, vs2, d2, ds2, p2, q2, rfl, rfl, rfl, h2, r2⟩ := trodAll_cons r1
  obtain ⟨rfl, rfl, rfl⟩ := trodAll_nil r2
  obtain rfl : args = #[v0, v1, v2] := by cases args; simp_all
  obtain ⟨rfl, rfl⟩ := trodVars_none hV
  have hb := bulk_bound hk
  simp only [List.append_nil, Rows.uptoBulkAll] at hb
  have k0 := h0
  have k1 := h1
  have k2 := h2
  have lt0 : ∀ x ∈ p0, x.block < W.heap.size := by obtain ⟨m, hm⟩ := k0; exact DataW.trod_lt m _ _ _ hm
  have lt1 : ∀ x ∈ p1, x.block < W.heap.size := by obtain ⟨m, hm⟩ := k1; exact DataW.trod_lt m _ _ _ hm
  have lt2 : ∀ x ∈ p2, x.block < W.heap.size := by obtain ⟨m, hm⟩ := k2; exact DataW.trod_lt m _ _ _ hm
  obtain ⟨cs0, rfl, _⟩ := okWide_struct Try.underlying27 (hval 0 27 v0 rfl rfl)
  obtain ⟨cs1, rfl, _⟩ := okWide_struct Try.underlying43 (hval 1 43 v1 rfl rfl)
  obtain ⟨cs2, rfl, _⟩ := okWide_struct Try.underlying49 (hval 2 49 v2 rfl rfl)
  obtain ⟨fuel0, hf0⟩ := h0
  obtain ⟨fuel1, hf1⟩ := h1
  obtain ⟨fuel2, hf2⟩ := h2
  obtain ⟨ps0, s0, c0, b0⟩ := read allF (mu H) fuel0 8 27 _ _ _ flatTable hf0
  obtain ⟨ps1, s1, c1, b1⟩ := read allF (mu H) fuel1 8 43 _ _ _ flatPath hf1
  obtain ⟨ps2, s2, c2, b2⟩ := read allF (mu H) fuel2 8 49 _ _ _ flatVersion hf2
  cases s0 with | @str nm _ _ _ s0 =>
  cases s0 with | @sl _ _ _ cols _ _ _ _ _ _ s0 =>
  cases s0 with | @sl _ _ _ kr _ _ hke _ _ hkr s0 =>
  cases s0 with | @sl _ _ _ fo _ _ _ _ _ _ s0 =>
  cases s0 with | @sl _ _ _ ch _ _ _ _ _ _ s0 =>
  cases s0
  cases s1 with | @int _ k _ _ _ s1 =>
  cases s1 with | @sl _ _ _ key _ _ hve hvl _ hkey s1 =>
  cases s1 with | @int _ a _ _ _ s1 =>
  cases s1 with | @int _ b _ _ _ s1 =>
  cases s1 with | @int _ c _ _ _ s1 =>
  cases s1 with | @int _ d _ _ _ s1 =>
  cases s1
  cases s2 with | @int _ x _ _ _ s2 =>
  cases s2 with | @int _ y _ _ _ s2 =>
  cases s2 with | @sl _ _ _ rw' _ _ hwe _ _ hrw s2 =>
  cases s2 with | @int _ t0 _ _ _ s2 =>
  cases s2 with | @int _ t1 _ _ _ s2 =>
  cases s2 with | @int _ u0 _ _ _ s2 =>
  cases s2 with | @int _ u1 _ _ _ s2 =>
  cases s2 with | @int _ z _ _ _ s2 =>
  cases s2 with | @int _ u _ _ _ s2 =>
  cases s2
  rw [flatInt] at hke
  cases hke
  rw [flatValue] at hve hwe
  cases hve
  cases hwe
  obtain ⟨ks, rfl⟩ := rows_ints hkr
  obtain ⟨kv, rfl⟩ := rows_vals hkey
  obtain ⟨row, rfl⟩ := rows_vals hrw
  have hks : ks.length ≤ 1099511627776 := by
    have h3 := bulkRs_len (keyRows ks) fun r hr => by obtain ⟨k, _, rfl⟩ := List.mem_map.1 hr; simp
    rw [List.length_map] at h3
    simp only [bulkPs, bulkP] at b0
    omega
  have hkv : kv.length ≤ 9223372036854775807 := by rw [List.length_map] at hvl; exact hvl
  have ha0 : AVR W (Old W) (fun _ => undef) 0 (tabA (.str nm) (.vs 3 cols) ks (.vs 2 fo) (.vs 7 ch)) (.agg cs0) := cells_avr c0
  have ha1 : AVR W (Old W) (fun _ => undef) 0 (pathA k (kv.map Vl.row) a b c d) (.agg cs1) := cells_avr c1
  have ha2 : AVR W (Old W) (fun _ => undef) 0 (verA (I x) (I y) row t0 t1 u0 u1 (I z) (I u)) (.agg cs2) := cells_avr c2
  refine ((c_law (.str nm) (.vs 3 cols) ks (.vs 2 fo) (.vs 7 ch) (I x) (I y) row t0 t1 u0 u1 (I z) (I u) k kv a b c d hks hkv).2 W (Old W) (fun b h => h) #[.agg cs0, .agg cs1, .agg cs2] rfl (fun i x hx => ?_)).mono fun e W' ⟨v, r, hr, he, bel, hv⟩ => ?_
  · match i with
    | 0 => simp at hx; subst hx; exact ⟨_, rfl, ha0⟩
    | 1 => simp at hx; subst hx; exact ⟨_, rfl, ha1⟩
    | 2 => simp at hx; subst hx; exact ⟨_, rfl, ha2⟩
    | i + 3 => simp at hx
  · subst hr he
    have hv' := hv.bool_inv
    subst hv'
    exact ⟨_, rfl, _, _, _, [], _, [], hW', trodAll_mk1 (shut_bool Try.underlying4 _), (trodAll_cons_mk (Below.trod laidOut (by kernel_rfl) (of_decide_eq_true (by kernel_rfl)) k0 bel lt0) (trodAll_cons_mk (Below.trod laidOut (by kernel_rfl) (of_decide_eq_true (by kernel_rfl)) k1 bel lt1) (trodAll_cons_mk (Below.trod laidOut (by kernel_rfl) (of_decide_eq_true (by kernel_rfl)) k2 bel lt2) trodAll_mk0))), rfl, bel.frame _, fun h => by cases h⟩

set_option maxRecDepth 100000 in
theorem lifted (os : Os) (started : os.Started) (H : Type) (enc : TypeId × Value → H) (F : Stop.Interp) :
    ReturnsInHanded {} Try.checked os 5 .any ((Rows.OpenSpec.upto Rows.accessMatchesSpec).pre6 enc Try.prog Try.f5 Rows.accessMatchesUptoRow.domain false) (((Rows.OpenSpec.upto Rows.accessMatchesSpec).at F).post enc Try.prog Try.f5 false true false false) := by
  refine returnsInHanded_of_cond (C := Try.checked) (s := Rows.OpenSpec.upto Rows.accessMatchesSpec) (k := Rows.uptoSmall) rfl own started (by kernel_rfl) Try.func5
    (OpenSpec.witness (enc := enc) (C := Try.checked) (s := Rows.OpenSpec.upto Rows.accessMatchesSpec) (k := Rows.uptoSmall) rfl false ⟨#[], #[.agg #[.string ByteArray.empty, .slice none 0 0, .slice none 0 0, .slice none 0 0, .slice none 0 0], .agg #[.int .i64 0, .slice none 0 0, .int .i64 0, .int .i64 0, .int .i64 0, .int .i64 0], .agg #[.int .i64 0, .int .i64 0, .slice none 0 0, .int .i64 0, .int .i64 0, .int .i64 0, .int .i64 0, .int .i64 0, .int .i64 0]], []⟩ 8 (by kernel_rfl) (by kernel_rfl) (by kernel_rfl)
      (x := ([.agg [.lit (.string []), .nil, .nil, .nil, .nil], .agg [.lit (.int .i64 0), .nil, .agg [.agg [.lit (.int .i64 0), .lit (.int .i64 0)], .agg [.lit (.int .i64 0), .lit (.int .i64 0)]]], .agg [.lit (.int .i64 0), .lit (.int .i64 0), .nil, .agg [.lit (.int .i64 0), .lit (.int .i64 0)], .agg [.lit (.int .i64 0), .lit (.int .i64 0)], .lit (.int .i64 0), .lit (.int .i64 0)]], [], [])) (by kernel_rfl) rfl (by kernel_rfl)) ?_
  intro W base args ds gs before hval hW _ hk _
  exact contract H enc W base args ds gs before hval hW hk

theorem over : Rows.accessMatchesUptoRow.holds Try.pinned (Rows.OpenSpec.upto Rows.accessMatchesSpec) :=
  OpenClaim.holds_of_cond 5 Try.f5 rfl rfl rfl rfl rfl rfl rfl ⟨rfl, rfl, rfl, rfl, rfl⟩ rfl rfl rfl rfl rfl (by kernel_rfl) Try.func5 (by kernel_rfl)
    (of_decide_eq_true (by kernel_rfl)) (by unfold Func.isWrapper; first | (rw [if_pos (by decide +kernel)]; kernel_rfl) | (rw [if_neg (by decide +kernel)]; exact ⟨rfl, rfl⟩))
    (fun os started H enc _ F => lifted os started H enc F)
theorem proved : Rows.AccessMatchesUptoSaid := over
end Go.Proofs.Ytijjagkeaehhbaa.Matches
namespace Go.Proofs.Ytijjagkeaehhbaa
/-- The row, under a short name, for the claim. -/
theorem accessMatches_holds : Rows.AccessMatchesUptoSaid := Matches.proved
#print axioms accessMatches_holds
end Go.Proofs.Ytijjagkeaehhbaa
