/- AccessChooses returns true for every table, expression, clause and period within the stated bounds. -/
import Derived.Test.YtijjagkeaehhbaaAno
import Derived.Test.YtijjagkeaehhbaaAnd
set_option linter.unusedSimpArgs false
set_option linter.unusedVariables false
namespace Go.Proofs.Ytijjagkeaehhbaa.Eng
open Go.RowKit (Below)

theorem pfx_vl (cds : List Cd) : ∀ ks : List Int, ∃ l : List Vl, pfx cds ks = l.map Vl.row ∧ l.length ≤ ks.length
  | [] => ⟨[], rfl, Nat.le_refl _⟩
  | k :: r => by
    obtain ⟨l, h1, h2⟩ := pfx_vl cds r
    rw [pfx]
    split
    · rename_i c hc
      exact ⟨⟨c.k, c.i, c.t⟩ :: l, by rw [h1]; rfl, by simpa using h2⟩
    · exact ⟨[], rfl, Nat.zero_le _⟩
theorem path_nil (k a b c d : Int) : PLes [I k, .nils, I a, I b, I c, I d] [I k, .vs 3 ([] : List (List PV)), I a, I b, I c, I d] := .cons (.rfl _) (.cons (.nils 3) (.cons (.rfl _) (.cons (.rfl _) (.cons (.rfl _) (.cons (.rfl _) .nil)))))
theorem choose_path (s : Int × Int) (d0 d1 : Int) (key : List Vl) : ∃ (k : Int) (key' : List Vl) (a b c d : Int), key'.length ≤ key.length ∧
    ∀ (w : World) (S : Nat → Prop) (v : Value), AVR w S (fun _ => undef) 0 (chooseA s d0 d1 (key.map Vl.row)) v → AVR w S (fun _ => undef) 0 (pathA k (key'.map Vl.row) a b c d) v := by
  unfold chooseA
  split
  · exact ⟨1, key, 0, 0, 0, 0, Nat.le_refl _, fun _ _ _ h => h⟩
  split
  · exact ⟨0, [], 0, 0, 0, 0, Nat.zero_le _, fun _ _ _ h => ale (path_nil ..) h⟩
  split
  · exact ⟨3, [], d0, d1, s.1, s.2, Nat.zero_le _, fun _ _ _ h => ale (path_nil ..) h⟩
  split
  · exact ⟨2, [], d0, d1, 0, 0, Nat.zero_le _, fun _ _ _ h => ale (path_nil ..) h⟩
  · exact ⟨0, [], 0, 0, 0, 0, Nat.zero_le _, fun _ _ _ h => ale (path_nil ..) h⟩
set_option maxHeartbeats 1000000 in
set_option maxRecDepth 20000 in
theorem c_chooses (nm : ByteArray) (cs : List Co) (ks : List Int) (fo : List Fo) (ch : List Ex) (e : Ex) (k a b d0 d1 : Int) (hks : ks.length ≤ 1099511627776) (hcs : cs.length ≤ 1099511627776) (hfo : ∀ f ∈ fo, foOk f) (hch : slimL ch) (he : e.slim) (hb : (conjE e).length ≤ 1099511627776) :
    AFunR Try.prog 3 [tabC (.str nm) cs (.vs 1 (keyRows ks)) (.vs 2 (fo.map Fo.row)) (.vs 7 (exRows ch)), .agg (pvs e.row), .agg [li k, li a, li b], per d0 d1] (fun r => r = .b true) := by
  have hch0 := c_chosen nm cs ks fo ch e d0 d1 hks hcs hfo hch he
  have hlv : (leaves e).length ≤ 1099511627776 := by rw [← conds_leaves e he]; exact Nat.le_trans (condsL_le _) hb
  have h1 := c_choose (.str nm) (.vs 3 (cs.map Co.row)) ks (.vs 2 (fo.map Fo.row)) (.vs 7 (exRows ch)) e k a b d0 d1 (slim_fits e he) hlv hks
  have h2 := c_rchoose (.str nm) (.vs 3 (cs.map Co.row)) ks (.vs 2 (fo.map Fo.row)) (.vs 7 (exRows ch)) e k a b d0 d1 (slim_fits e he) he hb hks
  obtain ⟨key, hkey, hlen⟩ := pfx_vl (leavesC e) ks
  rw [hkey] at h1 h2
  obtain ⟨k', key', a', b', c', d', hl', hw⟩ := choose_path (sysF k a b) d0 d1 key
  replace h1 := h1.wk hw
  replace h2 := h2.wk hw
  have h3 := c_samePath k' a' b' c' d' key' (by omega)
  clear hw hkey
  obtain ⟨xo, xn, xk, xi, xt, xs, xa⟩ := e
  refine afun_body T_ok mixed Try.func3 rfl (ent_of Try.func3 rfl rfl) (Nat.le_of_ble_eq_true rfl) ?_
  repeat' (first | exact True.intro | apply And.intro | (intro h; exact Bool.noConfusion h) | exact ok_op (by kernel_rfl) | exact ok_tr (by kernel_rfl) | intro _ | refine callR_of_someB hch0 rfl ?_ | refine Exists.intro _ (And.intro h1.afun (And.intro rfl ?_)) | refine Exists.intro _ (And.intro h2.afun (And.intro rfl ?_)) | refine Exists.intro _ (And.intro h3.afun (And.intro rfl ?_)) | refine Exists.intro _ (And.intro c_awake.afun (And.intro rfl ?_)) | refine callR_of_fun c_awake.afun rfl ?_ | apply fin_b | rfl | refine @Exists.intro Bool _ true ?_ | refine @Exists.intro Way _ .call ?_)
end Go.Proofs.Ytijjagkeaehhbaa.Eng
