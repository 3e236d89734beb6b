/- That the reference's check of a table returns some number, and what 'chosen' and SamePath return. Each function's arguments and the stated bounds are its condition. -/
import Derived.Test.YtijjagkeaehhbaaAnn
import Derived.Test.YtijjagkeaehhbaaAmb
import Derived.Test.YtijjagkeaehhbaaAmc
set_option linter.unusedSimpArgs false
set_option linter.unusedVariables false
namespace Go.Proofs.Ytijjagkeaehhbaa.Eng
open Go.RowKit (Below)

def foOk (f : Fo) : Prop := f.c.length ≤ 1099511627776
theorem foRow_get {a : List Fo} {j : Nat} {v : Fo} (h : a[j]? = some v) : (a.map Fo.row)[((j : Nat) : Int).toNat]? = some v.row := by
  have : ((j : Nat) : Int).toNat = j := rfl
  rw [this, List.getElem?_map, h]; rfl
set_option maxHeartbeats 2000000 in
set_option maxRecDepth 20000 in
theorem c_constraints (nm : PV) (cs : List Co) (key : PV) (fo : List Fo) (ch : List Ex) (hcs : cs.length ≤ 1099511627776) (hfo : ∀ f ∈ fo, foOk f) (hch : slimL ch) : AFunR Try.prog 83 [tabC nm cs key (.vs 2 (fo.map Fo.row)) (.vs 7 (exRows ch))] someI := by
  have hlf : (fo.map Fo.row).length = fo.length := List.length_map ..
  have hlc := exRows_length ch
  have hkl : (cs.map Co.k).length = cs.length := List.length_map ..
  refine afun_body T_ok mixed Try.func83 rfl (ent_of Try.func83 rfl rfl) (Nat.le_of_ble_eq_true rfl) ?_
  repeat' (first | exact True.intro | apply And.intro | (intro h; exact Bool.noConfusion h) | exact ok_op (by kernel_rfl) | exact ok_tr (by kernel_rfl) | intro _ | exact ⟨_, rfl⟩ | rfl | refine @Exists.intro Bool _ true ?_ | refine @Exists.intro Way _ .call ?_)
  all_goals
    have hl4 : fo.length ≤ 4 := by have := of_decide_eq_false ‹decide (((fo.map Fo.row).length : Int) > 4) = false›; omega
    refine ⟨fun m st => ∃ j : Nat, j ≤ fo.length ∧ m = fo.length - j ∧ st = AS.on [(1, .lv (.ptr 0 0)), (3, .i j)] [(0, .box 27 (tabL nm cs key (.vs 2 (fo.map Fo.row)) (.vs 7 (exRows ch))))] 1 60 0 (fun _ => false), ⟨fo.length, _, ⟨0, Nat.zero_le _, rfl, rfl⟩, ?_⟩, ?_⟩
  · refine weak_on rfl rfl rfl rfl ?_ ?_
    · repeat' (first | exact True.intro | apply And.intro | (intro h; exact Bool.noConfusion h) | exact ok_op (by kernel_rfl) | exact ok_tr (by kernel_rfl) | intro _ | rfl | refine @Exists.intro Bool _ true ?_ | refine @Exists.intro Way _ .call ?_)
    · repeat' (first | exact True.intro | apply And.intro | (intro h; exact Bool.noConfusion h) | exact ok_op (by kernel_rfl) | exact ok_tr (by kernel_rfl) | intro _ | rfl | refine Exists.intro _ (And.intro rfl ?_) | refine @Exists.intro Bool _ true ?_ | refine @Exists.intro Way _ .call ?_)
  · rintro m st ⟨j, hj, rfl, rfl⟩
    by_cases hlt : j < fo.length
    · obtain ⟨f, hf1⟩ : ∃ f, fo[j]? = some f := ⟨_, List.getElem?_eq_getElem hlt⟩
      have hrow := foRow_get hf1
      obtain ⟨c, n⟩ := f
      obtain ⟨r0, hfor⟩ := c_foreignX nm cs key (.vs 2 (fo.map Fo.row)) (.vs 7 (exRows ch)) c n (hfo _ (List.mem_of_getElem? hf1))
      repeat' (first | exact True.intro | apply And.intro | (intro h; exact Bool.noConfusion h) | exact ok_op (by kernel_rfl) | exact ok_tr (by kernel_rfl) | intro _ | refine Exists.intro _ (And.intro (Int.natCast_nonneg j) (And.intro hrow (And.intro rfl ?_))) | refine Exists.intro _ (And.intro hfor.afun (And.intro rfl ?_)) | exact ⟨_, rfl⟩ | rfl | refine @Exists.intro Bool _ true ?_ | refine @Exists.intro Way _ .call ?_)
      all_goals first
        | (exfalso; have := of_decide_eq_false ‹decide ((j : Int) < (fo.map Fo.row).length) = false›; omega)
        | skip
      refine ⟨fo.length - (j + 1), _, by omega, ⟨j + 1, hlt, rfl, rfl⟩, weak_on rfl rfl rfl rfl ?_ ?_⟩
      · repeat' (first | exact True.intro | apply And.intro | (intro h; exact Bool.noConfusion h) | exact ok_op (by kernel_rfl) | exact ok_tr (by kernel_rfl) | intro _ | rfl | (apply fin_i; rw [wrap_id] <;> omega) | refine @Exists.intro Bool _ true ?_ | refine @Exists.intro Way _ .call ?_)
      · repeat' (first | exact True.intro | apply And.intro | (intro h; exact Bool.noConfusion h) | exact ok_op (by kernel_rfl) | exact ok_tr (by kernel_rfl) | intro _ | rfl | refine Exists.intro _ (And.intro rfl ?_) | refine @Exists.intro Bool _ true ?_ | refine @Exists.intro Way _ .call ?_)
    · repeat' (first | exact True.intro | apply And.intro | (intro h; exact Bool.noConfusion h) | exact ok_op (by kernel_rfl) | exact ok_tr (by kernel_rfl) | intro _ | exact ⟨_, rfl⟩ | rfl | refine @Exists.intro Bool _ true ?_ | refine @Exists.intro Way _ .call ?_)
      all_goals first
        | (exfalso; have := of_decide_eq_true ‹decide ((j : Int) < (fo.map Fo.row).length) = true›; omega)
        | skip
      have hc4 : ch.length ≤ 4 := by have := of_decide_eq_false ‹decide (((exRows ch).length : Int) > 4) = false›; omega
      refine ⟨fun m st => ∃ j : Nat, j ≤ ch.length ∧ m = ch.length - j ∧ st = AS.on [(1, .lv (.ptr 0 0)), (5, .i j)] [(0, .box 27 (tabL nm cs key (.vs 2 (fo.map Fo.row)) (.vs 7 (exRows ch))))] 1 60 0 (fun _ => false), ⟨ch.length, _, ⟨0, Nat.zero_le _, rfl, rfl⟩, ?_⟩, ?_⟩
      · refine weak_on rfl rfl rfl rfl ?_ ?_
        · repeat' (first | exact True.intro | apply And.intro | (intro h; exact Bool.noConfusion h) | exact ok_op (by kernel_rfl) | exact ok_tr (by kernel_rfl) | intro _ | rfl | refine @Exists.intro Bool _ true ?_ | refine @Exists.intro Way _ .call ?_)
        · repeat' (first | exact True.intro | apply And.intro | (intro h; exact Bool.noConfusion h) | exact ok_op (by kernel_rfl) | exact ok_tr (by kernel_rfl) | intro _ | rfl | refine Exists.intro _ (And.intro rfl ?_) | refine @Exists.intro Bool _ true ?_ | refine @Exists.intro Way _ .call ?_)
      · rintro m st ⟨j, hj, rfl, rfl⟩
        by_cases hlt : j < ch.length
        · obtain ⟨x, hx⟩ : ∃ x, ch[j]? = some x := ⟨_, List.getElem?_eq_getElem hlt⟩
          have hrow := exRows_get ch j x hx
          have hrow' : (exRows ch)[((j : Nat) : Int).toNat]? = some x.row := hrow
          have hkinds := c_kinds nm cs key (.vs 2 (fo.map Fo.row)) (.vs 7 (exRows ch)) hcs
          have hchk := c_check11 (cs.map Co.k) x (by omega) (slimL_get ch j x hch hx)
          generalize chk11 (cs.map Co.k) x = d at hchk
          obtain ⟨dk, df⟩ := d
          obtain ⟨xo, xn, xk, xi, xt, xs, xa⟩ := x
          repeat' (first | exact True.intro | apply And.intro | (intro h; exact Bool.noConfusion h) | exact ok_op (by kernel_rfl) | exact ok_tr (by kernel_rfl) | intro _ | refine Exists.intro _ (And.intro (Int.natCast_nonneg j) (And.intro hrow' (And.intro rfl ?_))) | refine Exists.intro _ (And.intro hkinds.afun (And.intro rfl ?_)) | refine Exists.intro _ (And.intro hchk.afun (And.intro rfl ?_)) | exact ⟨_, rfl⟩ | rfl | refine @Exists.intro Bool _ true ?_ | refine @Exists.intro Way _ .call ?_)
          all_goals first
            | (exfalso; have := of_decide_eq_false ‹decide ((j : Int) < (exRows ch).length) = false›; omega)
            | skip
          all_goals
            refine ⟨ch.length - (j + 1), _, by omega, ⟨j + 1, hlt, rfl, rfl⟩, weak_on rfl rfl rfl rfl ?_ ?_⟩
            · repeat' (first | exact True.intro | apply And.intro | (intro h; exact Bool.noConfusion h) | exact ok_op (by kernel_rfl) | exact ok_tr (by kernel_rfl) | intro _ | rfl | (apply fin_i; rw [wrap_id] <;> omega) | refine @Exists.intro Bool _ true ?_ | refine @Exists.intro Way _ .call ?_)
            · repeat' (first | exact True.intro | apply And.intro | (intro h; exact Bool.noConfusion h) | exact ok_op (by kernel_rfl) | exact ok_tr (by kernel_rfl) | intro _ | rfl | refine Exists.intro _ (And.intro rfl ?_) | refine @Exists.intro Bool _ true ?_ | refine @Exists.intro Way _ .call ?_)
        · repeat' (first | exact True.intro | apply And.intro | (intro h; exact Bool.noConfusion h) | exact ok_op (by kernel_rfl) | exact ok_tr (by kernel_rfl) | intro _ | exact ⟨_, rfl⟩ | rfl | refine @Exists.intro Bool _ true ?_ | refine @Exists.intro Way _ .call ?_)
          all_goals first
            | (exfalso; have := of_decide_eq_true ‹decide ((j : Int) < (exRows ch).length) = true›; omega)
            | skip
theorem callR_of_someI {P : Program} {g : Nat} {args : List AV} (h : AFunR P g args someI) (hp : aids args = []) {s : AS} {R : AV → AS → Prop} (hR : ∀ n : Int, R (.i n) s) : CallR P g args s R :=
  callR_of_funR h hp fun r ⟨n, hn⟩ => by subst hn; exact hR n
theorem callR_of_someB {P : Program} {g : Nat} {args : List AV} (h : AFunR P g args someB) (hp : aids args = []) {s : AS} {R : AV → AS → Prop} (hR : ∀ n : Bool, R (.b n) s) : CallR P g args s R :=
  callR_of_funR h hp fun r ⟨n, hn⟩ => by subst hn; exact hR n
theorem c_check13 (nm : ByteArray) (cs : List Co) (ks : List Int) (fo : List Fo) (ch : List Ex) (hks : ks.length ≤ 1099511627776) (hcs : cs.length ≤ 1099511627776) (hfo : ∀ f ∈ fo, foOk f) (hch : slimL ch) : AFunR Try.prog 42 [tabC (.str nm) cs (.vs 1 (keyRows ks)) (.vs 2 (fo.map Fo.row)) (.vs 7 (exRows ch))] someI := by
  have h1 := c_columns (.str nm) cs (.vs 1 (keyRows ks)) (.vs 2 (fo.map Fo.row)) (.vs 7 (exRows ch)) hcs
  have h2 := c_keyT (.str nm) cs ks (.vs 2 (fo.map Fo.row)) (.vs 7 (exRows ch)) hks
  have h3 := c_constraints (.str nm) cs (.vs 1 (keyRows ks)) fo ch hcs hfo hch
  obtain ⟨b, hnm⟩ := c_nameX nm
  refine afun_body T_ok mixed Try.func42 rfl (ent_of Try.func42 rfl rfl) (Nat.le_of_ble_eq_true rfl) ?_
  repeat' (first | exact True.intro | apply And.intro | (intro h; exact Bool.noConfusion h) | exact ok_op (by kernel_rfl) | exact ok_tr (by kernel_rfl) | intro _ | refine callR_of_fun hnm.afun rfl ?_ | refine callR_of_someI h1 rfl ?_ | refine callR_of_someI h2 rfl ?_ | refine callR_of_someI h3 rfl ?_ | exact ⟨_, rfl⟩ | rfl | refine @Exists.intro Bool _ true ?_ | refine @Exists.intro Way _ .call ?_)
set_option maxRecDepth 20000 in
theorem c_chosen (nm : ByteArray) (cs : List Co) (ks : List Int) (fo : List Fo) (ch : List Ex) (e : Ex) (d0 d1 : Int) (hks : ks.length ≤ 1099511627776) (hcs : cs.length ≤ 1099511627776) (hfo : ∀ f ∈ fo, foOk f) (hch : slimL ch) (he : e.slim) :
    AFunR Try.prog 12 [tabC (.str nm) cs (.vs 1 (keyRows ks)) (.vs 2 (fo.map Fo.row)) (.vs 7 (exRows ch)), .agg (pvs e.row), per d0 d1] someB := by
  have hkl : (cs.map Co.k).length = cs.length := List.length_map ..
  have hkinds := c_kinds (.str nm) cs (.vs 1 (keyRows ks)) (.vs 2 (fo.map Fo.row)) (.vs 7 (exRows ch)) hcs
  have hchk := c_check11 (cs.map Co.k) e (by omega) he
  have h13 := c_check13 nm cs ks fo ch hks hcs hfo hch
  generalize chk11 (cs.map Co.k) e = d at hchk
  obtain ⟨dk, df⟩ := d
  obtain ⟨xo, xn, xk, xi, xt, xs, xa⟩ := e
  refine afun_body T_ok mixed Try.func12 rfl (ent_of Try.func12 rfl rfl) (Nat.le_of_ble_eq_true rfl) ?_
  repeat' (first | exact True.intro | apply And.intro | (intro h; exact Bool.noConfusion h) | exact ok_op (by kernel_rfl) | exact ok_tr (by kernel_rfl) | intro _ | refine Exists.intro _ (And.intro hkinds.afun (And.intro rfl ?_)) | refine Exists.intro _ (And.intro hchk.afun (And.intro rfl ?_)) | refine callR_of_someI h13 rfl ?_ | refine callR_of_fun (c_rvalid _ _).afun rfl ?_ | exact ⟨_, rfl⟩ | rfl | refine @Exists.intro Bool _ true ?_ | refine @Exists.intro Way _ .call ?_)
theorem rcmpR_self : ∀ a : List Vl, rcmpR a a = 0
  | [] => rfl
  | x :: a => by
    rw [rcmpR, rcmpR_self a, if_neg]
    rw [(vcmpR_zero x x).2 ⟨rfl, rfl, rfl⟩]
    decide
theorem c_samePath (k a b c d : Int) (key : List Vl) (hk : key.length ≤ 9223372036854775807) :
    AFunR Try.prog 14 [pathA k (key.map Vl.row) a b c d, pathA k (key.map Vl.row) a b c d] (fun r => r = .b true) := by
  have he := c_requal key key hk hk
  rw [rcmpR_self] at he
  refine afun_body T_ok mixed Try.func14 rfl (ent_of Try.func14 rfl rfl) (Nat.le_of_ble_eq_true rfl) ?_
  repeat' (first | exact True.intro | apply And.intro | (intro h; exact Bool.noConfusion h) | exact ok_op (by kernel_rfl) | exact ok_tr (by kernel_rfl) | intro _ | refine callR_of_fun he.afun rfl ?_ | refine Exists.intro _ (And.intro (eq_rect _ _ _ _ _ _ _ _ _ _) ?_) | apply fin_b | rfl | refine @Exists.intro Bool _ true ?_ | refine @Exists.intro Way _ .call ?_)
  all_goals first
    | (exfalso; exact absurd ‹(k == k) = !true› (by simp))
    | simp
end Go.Proofs.Ytijjagkeaehhbaa.Eng
