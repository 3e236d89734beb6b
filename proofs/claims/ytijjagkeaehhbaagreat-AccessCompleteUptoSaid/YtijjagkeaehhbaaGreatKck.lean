/- What the reference's operators compute. Each function's arguments and the stated bounds are its condition. And what follows in this text; each statement bears its conditions. -/
import Derived.Test.YtijjagkeaehhbaaGreatKcj
/- What the reference's operators compute. Each function's arguments and the stated bounds are its condition. -/
set_option linter.unusedSimpArgs false
set_option linter.unusedVariables false
namespace Go.Proofs.YtijjagkeaehhbaaGreat.Eng
open Go.RowKit (Below)

def someV : AV → Prop := fun r => ∃ v : Vl, r = v.agg ∧ okT v
theorem callR_of_someV {P : Program} {g : Nat} {args : List AV} (h : AFunR P g args someV) (hp : aids args = []) {s : AS} {R : AV → AS → Prop} (hR : ∀ (k i : Int) (t : ByteArray), okT ⟨k, i, t⟩ → R (valA k i t) s) : CallR P g args s R :=
  callR_of_funR h hp fun r ⟨n, hn, ho⟩ => by subst hn; exact hR n.k n.i n.t ho
theorem some_of {v : Vl} (h : okT v) : someV v.agg := ⟨v, rfl, h⟩

def areB (l : List Vl) (kd : Int) : Bool := l.all fun v => v.k == kd
theorem c_rare (l : List Vl) (kd : Int) (hl : l.length ≤ 9223372036854775807) : AFunR Tryz.prog 63 [vlA l, .i kd] (fun r => r = .b (areB l kd)) := by
  have hlen : (l.map Vl.row).length = l.length := List.length_map ..
  refine afun_body T_ok mixed Tryz.func63 rfl (ent_of Tryz.func63 rfl rfl) (Nat.le_of_ble_eq_true rfl) ?_
  repeat' (first | exact True.intro | apply And.intro | (intro h; exact Bool.noConfusion h) | exact ok_op (by kernel_rfl) | exact ok_tr (by kernel_rfl) | intro _ | rfl | refine @Exists.intro Bool _ true ?_ | refine @Exists.intro Way _ .call ?_)
  refine ⟨fun m st => ∃ j : Nat, j ≤ l.length ∧ areB (l.drop j) kd = areB l kd ∧ m = l.length - j ∧ st = AS.on [(0, vlA l), (1, .i kd), (5, .i j)] [] 0 19 0 (fun _ => false), ⟨l.length, _, ⟨0, Nat.zero_le _, rfl, rfl, rfl⟩, ?_⟩, ?_⟩
  · refine weak_on rfl rfl rfl rfl ?_ ?_
    repeat' (first | exact True.intro | apply And.intro | (intro h; exact Bool.noConfusion h) | exact ok_op (by kernel_rfl) | exact ok_tr (by kernel_rfl) | intro _ | rfl | refine @Exists.intro Bool _ true ?_ | refine @Exists.intro Way _ .call ?_)
  · rintro m st ⟨j, hj, heq, rfl, rfl⟩
    by_cases hlt : j < l.length
    · obtain ⟨x, hx⟩ : ∃ x, l[j]? = some x := ⟨_, List.getElem?_eq_getElem hlt⟩
      have hrow := vlRow_get hx
      rw [drop_get hx, areB, List.all_cons] at heq
      obtain ⟨k, i, t⟩ := x
      generalize areB l kd = R at heq ⊢
      repeat' (first | exact True.intro | apply And.intro | (intro h; exact Bool.noConfusion h) | exact ok_op (by kernel_rfl) | exact ok_tr (by kernel_rfl) | intro _ | refine Exists.intro _ (And.intro (Int.natCast_nonneg j) (And.intro hrow (And.intro rfl ?_))) | apply fin_b | rfl | refine @Exists.intro Bool _ true ?_ | refine @Exists.intro Way _ .call ?_)
      all_goals first
        | (exfalso; have := of_decide_eq_false ‹decide ((j : Int) < (l.map Vl.row).length) = false›; omega)
        | (rw [← heq]; have h1 := ‹(k != kd) = true›; have h2 : (k == kd) = false := by rw [bne, Bool.not_eq_true'] at h1; exact h1
           show false = ((k == kd) && _); rw [h2]; rfl)
        | skip
      refine ⟨l.length - (j + 1), _, by omega, ⟨j + 1, hlt, ?_, rfl, rfl⟩, weak_on rfl rfl rfl rfl ?_ ?_⟩
      · have h1 := ‹(k != kd) = false›
        have h2 : (k == kd) = true := by rw [bne, Bool.not_eq_false'] at h1; exact h1
        rw [← heq]
        show _ = ((k == kd) && _)
        rw [h2]
        rfl
      · repeat' (first | exact True.intro | apply And.intro | (intro h; exact Bool.noConfusion h) | exact ok_op (by kernel_rfl) | exact ok_tr (by kernel_rfl) | intro _ | rfl | (apply fin_i; rw [wrap_id] <;> omega) | refine @Exists.intro Bool _ true ?_ | refine @Exists.intro Way _ .call ?_)
      · repeat' (first | exact True.intro | apply And.intro | (intro h; exact Bool.noConfusion h) | exact ok_op (by kernel_rfl) | exact ok_tr (by kernel_rfl) | intro _ | rfl | refine @Exists.intro Bool _ true ?_ | refine @Exists.intro Way _ .call ?_)
    · have hje : j = l.length := by omega
      rw [hje, List.drop_length] at heq
      repeat' (first | exact True.intro | apply And.intro | (intro h; exact Bool.noConfusion h) | exact ok_op (by kernel_rfl) | exact ok_tr (by kernel_rfl) | intro _ | apply fin_b | refine @Exists.intro Bool _ true ?_ | refine @Exists.intro Way _ .call ?_)
      all_goals first
        | (exfalso; have := of_decide_eq_true ‹decide ((j : Int) < (l.map Vl.row).length) = true›; omega)
        | exact heq
theorem are_get {l : List Vl} {kd : Int} (h : areB l kd = true) {j : Nat} {v : Vl} (hv : l[j]? = some v) : v.k = kd := by
  have := List.all_eq_true.1 h v (List.mem_of_getElem? hv)
  exact eq_of_beq this

def logF (op : Int) : Int → List Vl → Int
  | t, [] => t
  | t, v :: r => logF op (if op = 5 then andT t (truthV v) else orT t (truthV v)) r
theorem c_rlogic (op : Int) (v : Vl) (l : List Vl) (hl : l.length ≤ 1099511627776) : AFunR Tryz.prog 61 [.i op, vlA (v :: l)] (fun r => r = (ofV (logF op (truthV v) l)).agg) := by
  have hlen : ((v :: l).map Vl.row).length = l.length + 1 := by simp
  have hrow0 : ((v :: l).map Vl.row)[((0 : Nat) : Int).toNat]? = some v.row := rfl
  have ht0 := c_rtruth v
  generalize truthV v = T0 at ht0 ⊢
  have hfin := c_rof (logF op T0 l)
  generalize hV : ofV (logF op T0 l) = V at hfin
  refine afun_body T_ok mixed Tryz.func61 rfl (ent_of Tryz.func61 rfl rfl) (Nat.le_of_ble_eq_true rfl) ?_
  obtain ⟨k0, i0, t0⟩ := v
  repeat' (first | exact True.intro | apply And.intro | (intro h; exact Bool.noConfusion h) | exact ok_op (by kernel_rfl) | exact ok_tr (by kernel_rfl) | intro _ | refine Exists.intro _ (And.intro (by decide) (And.intro hrow0 (And.intro rfl ?_))) | refine callR_of_fun ht0.afun rfl ?_ | rfl | refine @Exists.intro Bool _ true ?_ | refine @Exists.intro Way _ .call ?_)
  refine ⟨fun m st => ∃ (j : Nat) (t : Int), j ≤ l.length ∧ logF op t (l.drop j) = logF op T0 l ∧ m = l.length - j ∧ st = AS.on [(0, .i op), (1, vlA (⟨k0, i0, t0⟩ :: l)), (4, .lv (.ptr 0 0)), (5, .i t), (6, .i ((j : Int) + 1))] [(0, .box 29 [li 0, li 0, .pv (.str emp)])] 1 35 0 (fun _ => false), ⟨l.length, _, ⟨0, T0, Nat.zero_le _, rfl, rfl, rfl⟩, ?_⟩, ?_⟩
  · refine weak_on rfl rfl rfl rfl ?_ ?_
    · repeat' (first | exact True.intro | apply And.intro | (intro h; exact Bool.noConfusion h) | exact ok_op (by kernel_rfl) | exact ok_tr (by kernel_rfl) | intro _ | rfl | refine @Exists.intro Bool _ true ?_ | refine @Exists.intro Way _ .call ?_)
    · repeat' (first | exact True.intro | apply And.intro | (intro h; exact Bool.noConfusion h) | exact ok_op (by kernel_rfl) | exact ok_tr (by kernel_rfl) | intro _ | rfl | refine Exists.intro _ (And.intro rfl ?_) | refine @Exists.intro Bool _ true ?_ | refine @Exists.intro Way _ .call ?_)
  · rintro m st ⟨j, t, hj, heq, rfl, rfl⟩
    by_cases hlt : j < l.length
    · obtain ⟨x, hx⟩ : ∃ x, l[j]? = some x := ⟨_, List.getElem?_eq_getElem hlt⟩
      have hrow : (((⟨k0, i0, t0⟩ : Vl) :: l).map Vl.row)[((j : Int) + 1).toNat]? = some x.row := by
        rw [show ((j : Int) + 1).toNat = j + 1 from by omega, List.map_cons, List.getElem?_cons_succ, List.getElem?_map, hx]; rfl
      rw [drop_get hx, logF] at heq
      have htx := c_rtruth x
      generalize truthV x = TX at htx heq
      have hand := c_rand t TX
      have hor := c_ror t TX
      obtain ⟨k, i, tt⟩ := x
      by_cases h5 : op = 5
      · rw [if_pos h5] at heq
        repeat' (first | exact True.intro | apply And.intro | (intro h; exact Bool.noConfusion h) | exact ok_op (by kernel_rfl) | exact ok_tr (by kernel_rfl) | intro _ | refine Exists.intro _ (And.intro (by omega) (And.intro hrow (And.intro rfl ?_))) | refine callR_of_fun htx.afun rfl ?_ | refine callR_of_fun hand.afun rfl ?_ | refine callR_of_fun hor.afun rfl ?_ | rfl | refine @Exists.intro Bool _ true ?_ | refine @Exists.intro Way _ .call ?_)
        all_goals first
          | (exfalso; have := of_decide_eq_false ‹decide (((j : Int) + 1) < (((⟨k0, i0, t0⟩ : Vl) :: l).map Vl.row).length) = false›; omega)
          | (exfalso; exact absurd h5 (beq_eq_false_iff_ne.1 ‹(op == 5) = false›))
          | skip
        refine ⟨l.length - (j + 1), _, by omega, ⟨j + 1, _, hlt, heq, rfl, rfl⟩, weak_on rfl rfl rfl rfl ?_ ?_⟩
        · repeat' (first | exact True.intro | apply And.intro | (intro h; exact Bool.noConfusion h) | exact ok_op (by kernel_rfl) | exact ok_tr (by kernel_rfl) | intro _ | rfl | (apply fin_i; rw [wrap_id] <;> omega) | refine @Exists.intro Bool _ true ?_ | refine @Exists.intro Way _ .call ?_)
        · repeat' (first | exact True.intro | apply And.intro | (intro h; exact Bool.noConfusion h) | exact ok_op (by kernel_rfl) | exact ok_tr (by kernel_rfl) | intro _ | rfl | refine Exists.intro _ (And.intro rfl ?_) | refine @Exists.intro Bool _ true ?_ | refine @Exists.intro Way _ .call ?_)
      · rw [if_neg h5] at heq
        repeat' (first | exact True.intro | apply And.intro | (intro h; exact Bool.noConfusion h) | exact ok_op (by kernel_rfl) | exact ok_tr (by kernel_rfl) | intro _ | refine Exists.intro _ (And.intro (by omega) (And.intro hrow (And.intro rfl ?_))) | refine callR_of_fun htx.afun rfl ?_ | refine callR_of_fun hand.afun rfl ?_ | refine callR_of_fun hor.afun rfl ?_ | rfl | refine @Exists.intro Bool _ true ?_ | refine @Exists.intro Way _ .call ?_)
        all_goals first
          | (exfalso; have := of_decide_eq_false ‹decide (((j : Int) + 1) < (((⟨k0, i0, t0⟩ : Vl) :: l).map Vl.row).length) = false›; omega)
          | (exfalso; exact h5 (eq_of_beq ‹(op == 5) = true›))
          | skip
        refine ⟨l.length - (j + 1), _, by omega, ⟨j + 1, _, hlt, heq, rfl, rfl⟩, weak_on rfl rfl rfl rfl ?_ ?_⟩
        · repeat' (first | exact True.intro | apply And.intro | (intro h; exact Bool.noConfusion h) | exact ok_op (by kernel_rfl) | exact ok_tr (by kernel_rfl) | intro _ | rfl | (apply fin_i; rw [wrap_id] <;> omega) | refine @Exists.intro Bool _ true ?_ | refine @Exists.intro Way _ .call ?_)
        · repeat' (first | exact True.intro | apply And.intro | (intro h; exact Bool.noConfusion h) | exact ok_op (by kernel_rfl) | exact ok_tr (by kernel_rfl) | intro _ | rfl | refine Exists.intro _ (And.intro rfl ?_) | refine @Exists.intro Bool _ true ?_ | refine @Exists.intro Way _ .call ?_)
    · have hje : j = l.length := by omega
      rw [hje, List.drop_length, logF] at heq
      rw [← heq] at hfin
      obtain ⟨k, i, tt⟩ := V
      repeat' (first | exact True.intro | apply And.intro | (intro h; exact Bool.noConfusion h) | exact ok_op (by kernel_rfl) | exact ok_tr (by kernel_rfl) | intro _ | refine callR_of_fun hfin.afun rfl ?_ | rfl | refine @Exists.intro Bool _ true ?_ | refine @Exists.intro Way _ .call ?_)
      all_goals (exfalso; have := of_decide_eq_true ‹decide (((j : Int) + 1) < (((⟨k0, i0, t0⟩ : Vl) :: l).map Vl.row).length) = true›; omega)

def absF (n : Int) : Int := if n < 0 - n then 0 - n else n
theorem c_rabs (n : Int) (h0 : -1125899906842624 ≤ n) (h1 : n ≤ 1125899906842624) : AFunR Tryz.prog 110 [.i n] (fun r => r = .i (absF n)) := by
  refine afun_body T_ok mixed Tryz.func110 rfl (ent_of Tryz.func110 rfl rfl) (Nat.le_of_ble_eq_true rfl) ?_
  repeat' (first | exact True.intro | apply And.intro | (intro h; exact Bool.noConfusion h) | exact ok_op (by kernel_rfl) | exact ok_tr (by kernel_rfl) | intro _ | apply fin_i | refine @Exists.intro Bool _ true ?_ | refine @Exists.intro Way _ .call ?_)
  all_goals (unfold absF; rw [wrap_id (by omega) (by omega)])
theorem absF_ne {n : Int} (h : n ≠ 0) : absF n ≠ 0 := by unfold absF; split <;> omega
theorem c_rcomputed (op a b : Int) (hop : op = 13 ∨ op = 14 ∨ op = 15 ∨ op = 16 ∨ op = 17) (ha : -1125899906842624 ≤ a ∧ a ≤ 1125899906842624) (hb : -1125899906842624 ≤ b ∧ b ≤ 1125899906842624) : ∃ v : Vl, AFunR Tryz.prog 68 [.i op, .i a, .i b] (fun r => r = v.agg) ∧ okT v := by
  have haa := c_rabs a ha.1 ha.2
  have hab := c_rabs b hb.1 hb.2
  have hne := @absF_ne a
  generalize absF a = x at haa hne
  generalize absF b = y at hab
  have other : op = 16 ∨ op = 17 → b = 0 → AFunR Tryz.prog 68 [.i op, .i a, .i b] (fun r => r = nullV.agg) := by
    intro h h0
    rcases h with rfl | rfl
    all_goals
      refine afun_body T_ok mixed Tryz.func68 rfl (ent_of Tryz.func68 rfl rfl) (Nat.le_of_ble_eq_true rfl) ?_
      repeat' (first | exact True.intro | apply And.intro | (intro h; exact Bool.noConfusion h) | exact ok_op (by kernel_rfl) | exact ok_tr (by kernel_rfl) | intro _ | refine callR_of_fun c_rnull.afun rfl ?_ | rfl | refine @Exists.intro Bool _ true ?_ | refine @Exists.intro Way _ .call ?_)
    all_goals (exfalso; exact absurd h0 (beq_eq_false_iff_ne.1 ‹(b == 0) = false›))
  rcases hop with rfl | rfl | rfl | rfl | rfl
  · refine ⟨validOr ⟨1, IntKind.i64.wrap (a + b), emp⟩, ?_, ok_validOr _⟩
    refine afun_body T_ok mixed Tryz.func68 rfl (ent_of Tryz.func68 rfl rfl) (Nat.le_of_ble_eq_true rfl) ?_
    repeat' (first | exact True.intro | apply And.intro | (intro h; exact Bool.noConfusion h) | exact ok_op (by kernel_rfl) | exact ok_tr (by kernel_rfl) | intro _ | refine callR_of_fun (c_rint _).afun rfl ?_ | rfl | refine @Exists.intro Bool _ true ?_ | refine @Exists.intro Way _ .call ?_)
  · refine ⟨validOr ⟨1, IntKind.i64.wrap (a - b), emp⟩, ?_, ok_validOr _⟩
    refine afun_body T_ok mixed Tryz.func68 rfl (ent_of Tryz.func68 rfl rfl) (Nat.le_of_ble_eq_true rfl) ?_
    repeat' (first | exact True.intro | apply And.intro | (intro h; exact Bool.noConfusion h) | exact ok_op (by kernel_rfl) | exact ok_tr (by kernel_rfl) | intro _ | refine callR_of_fun (c_rint _).afun rfl ?_ | rfl | refine @Exists.intro Bool _ true ?_ | refine @Exists.intro Way _ .call ?_)
  · by_cases hq : a ≠ 0 ∧ y > IntKind.i64.wrap ((1125899906842624 : Int).tdiv x)
    · refine ⟨nullV, ?_, ok_null⟩
      refine afun_body T_ok mixed Tryz.func68 rfl (ent_of Tryz.func68 rfl rfl) (Nat.le_of_ble_eq_true rfl) ?_
      repeat' (first | exact True.intro | apply And.intro | (intro h; exact Bool.noConfusion h) | exact ok_op (by kernel_rfl) | exact ok_tr (by kernel_rfl) | intro _ | refine callR_of_fun haa.afun rfl ?_ | refine callR_of_fun hab.afun rfl ?_ | refine callR_of_fun (c_rint _).afun rfl ?_ | refine callR_of_fun c_rnull.afun rfl ?_ | rfl | refine @Exists.intro Bool _ true ?_ | refine @Exists.intro Way _ .call ?_)
      all_goals first
        | exact hne (bne_iff_ne.1 ‹(a != 0) = true›) ‹x = 0›
        | (exfalso; have := of_decide_eq_false ‹decide (y > IntKind.i64.wrap ((1125899906842624 : Int).tdiv x)) = false›; exact this hq.2)
        | (exfalso; have := ‹(a != 0) = false›; rw [bne_eq_false_iff_eq] at this; exact hq.1 this)
        | (exfalso; have := ‹(a != 0) = !true›; rw [Bool.not_true, bne_eq_false_iff_eq] at this; exact hq.1 this)
    · refine ⟨validOr ⟨1, IntKind.i64.wrap (a * b), emp⟩, ?_, ok_validOr _⟩
      refine afun_body T_ok mixed Tryz.func68 rfl (ent_of Tryz.func68 rfl rfl) (Nat.le_of_ble_eq_true rfl) ?_
      repeat' (first | exact True.intro | apply And.intro | (intro h; exact Bool.noConfusion h) | exact ok_op (by kernel_rfl) | exact ok_tr (by kernel_rfl) | intro _ | refine callR_of_fun haa.afun rfl ?_ | refine callR_of_fun hab.afun rfl ?_ | refine callR_of_fun (c_rint _).afun rfl ?_ | refine callR_of_fun c_rnull.afun rfl ?_ | rfl | refine @Exists.intro Bool _ true ?_ | refine @Exists.intro Way _ .call ?_)
      all_goals first
        | exact hne (bne_iff_ne.1 ‹(a != 0) = true›) ‹x = 0›
        | (exfalso; exact hq ⟨bne_iff_ne.1 ‹(a != 0) = true›, of_decide_eq_true ‹decide (y > IntKind.i64.wrap ((1125899906842624 : Int).tdiv x)) = true›⟩)
  · by_cases h0 : b = 0
    · exact ⟨nullV, other (.inl rfl) h0, ok_null⟩
    · refine ⟨validOr ⟨1, IntKind.i64.wrap (a.tdiv b), emp⟩, ?_, ok_validOr _⟩
      refine afun_body T_ok mixed Tryz.func68 rfl (ent_of Tryz.func68 rfl rfl) (Nat.le_of_ble_eq_true rfl) ?_
      repeat' (first | exact True.intro | apply And.intro | (intro h; exact Bool.noConfusion h) | exact ok_op (by kernel_rfl) | exact ok_tr (by kernel_rfl) | intro _ | refine callR_of_fun (c_rint _).afun rfl ?_ | refine callR_of_fun c_rnull.afun rfl ?_ | rfl | refine @Exists.intro Bool _ true ?_ | refine @Exists.intro Way _ .call ?_)
      all_goals first
        | exact h0 ‹b = 0›
        | (exfalso; exact h0 (eq_of_beq ‹(b == 0) = true›))
  · by_cases h0 : b = 0
    · exact ⟨nullV, other (.inr rfl) h0, ok_null⟩
    · refine ⟨validOr ⟨1, a.tmod b, emp⟩, ?_, ok_validOr _⟩
      refine afun_body T_ok mixed Tryz.func68 rfl (ent_of Tryz.func68 rfl rfl) (Nat.le_of_ble_eq_true rfl) ?_
      repeat' (first | exact True.intro | apply And.intro | (intro h; exact Bool.noConfusion h) | exact ok_op (by kernel_rfl) | exact ok_tr (by kernel_rfl) | intro _ | refine callR_of_fun (c_rint _).afun rfl ?_ | refine callR_of_fun c_rnull.afun rfl ?_ | rfl | refine @Exists.intro Bool _ true ?_ | refine @Exists.intro Way _ .call ?_)
      all_goals first
        | exact h0 ‹b = 0›
        | (exfalso; exact h0 (eq_of_beq ‹(b == 0) = true›))
theorem vl_get {l : List Vl} {j : Nat} {v : Vl} (h : l[j]? = some v) : (l.map Vl.row)[((j : Nat) : Int).toNat]? = some v.row := vlRow_get h
theorem c_rtexts (op : Int) (l : List Vl) (hl : l.length ≤ 1099511627776) (h1 : 1 ≤ l.length) (h2 : op = 19 → 2 ≤ l.length) (hok : ∀ v ∈ l, okT v) : AFunR Tryz.prog 65 [.i op, vlA l] someV := by
  have hare := c_rare l 2 (by omega)
  obtain ⟨a, ha⟩ : ∃ v, l[0]? = some v := ⟨_, List.getElem?_eq_getElem (by omega)⟩
  have hra := vl_get ha
  cases hb : areB l 2 with
  | false =>
    rw [hb] at hare
    refine afun_body T_ok mixed Tryz.func65 rfl (ent_of Tryz.func65 rfl rfl) (Nat.le_of_ble_eq_true rfl) ?_
    repeat' (first | exact True.intro | apply And.intro | (intro h; exact Bool.noConfusion h) | exact ok_op (by kernel_rfl) | exact ok_tr (by kernel_rfl) | intro _ | refine callR_of_fun hare.afun rfl ?_ | refine callR_of_fun c_rnull.afun rfl ?_ | exact some_of ok_null | rfl | refine @Exists.intro Bool _ true ?_ | refine @Exists.intro Way _ .call ?_)
    all_goals (exfalso; exact absurd ‹(!false) = false› (by decide))
  | true =>
    rw [hb] at hare
    have hsa := (hok a (List.mem_of_getElem? ha)).1 (are_get hb ha)
    obtain ⟨ak, ai, at'⟩ := a
    have hsa' : at'.size ≤ 200 := hsa
    by_cases h19 : op = 19
    · obtain ⟨b, hb2⟩ : ∃ v, l[1]? = some v := ⟨_, List.getElem?_eq_getElem (by have := h2 h19; omega)⟩
      have hrb := vl_get hb2
      have hsb := (hok b (List.mem_of_getElem? hb2)).1 (are_get hb hb2)
      obtain ⟨bk, bi, bt⟩ := b
      have hsb' : bt.size ≤ 200 := hsb
      have htx := c_rtext (at' ++ bt)
      refine afun_body T_ok mixed Tryz.func65 rfl (ent_of Tryz.func65 rfl rfl) (Nat.le_of_ble_eq_true rfl) ?_
      repeat' (first | exact True.intro | apply And.intro | (intro h; exact Bool.noConfusion h) | exact ok_op (by kernel_rfl) | exact ok_tr (by kernel_rfl) | intro _ | refine callR_of_fun hare.afun rfl ?_ | refine Exists.intro _ (And.intro (by decide) (And.intro hra (And.intro rfl ?_))) | refine Exists.intro _ (And.intro (by decide) (And.intro hrb (And.intro rfl ?_))) | refine Exists.intro _ (And.intro htx.afun (And.intro rfl ?_)) | exact some_of (ok_validOr _) | rfl | refine @Exists.intro Bool _ true ?_ | refine @Exists.intro Way _ .call ?_)
      all_goals first
        | (exfalso; exact absurd ‹(!true) = true› (by decide))
        | (exfalso; exact absurd h19 (beq_eq_false_iff_ne.1 ‹(op == 19) = false›))
        | (have : ((at'.size + bt.size : Nat) : Int) ≤ 9223372036854775807 := by omega
           exact this)
    · refine afun_body T_ok mixed Tryz.func65 rfl (ent_of Tryz.func65 rfl rfl) (Nat.le_of_ble_eq_true rfl) ?_
      repeat' (first | exact True.intro | apply And.intro | (intro h; exact Bool.noConfusion h) | exact ok_op (by kernel_rfl) | exact ok_tr (by kernel_rfl) | intro _ | refine callR_of_fun hare.afun rfl ?_ | refine Exists.intro _ (And.intro (by decide) (And.intro hra (And.intro rfl ?_))) | refine callR_of_fun (c_rint _).afun rfl ?_ | exact some_of (ok_validOr _) | rfl | refine @Exists.intro Bool _ true ?_ | refine @Exists.intro Way _ .call ?_)
      all_goals first
        | (exfalso; exact absurd ‹(!true) = true› (by decide))
        | (exfalso; exact h19 (eq_of_beq ‹(op == 19) = true›))
theorem c_rchosen11 (op : Int) (l : List Vl) (hl : l.length ≤ 1099511627776) (h3 : op = 22 → 3 ≤ l.length) (hok : ∀ v ∈ l, okT v) : AFunR Tryz.prog 66 [.i op, vlA l] someV := by
  have hlen : (l.map Vl.row).length = l.length := List.length_map ..
  by_cases h22 : op = 22
  · have := h3 h22
    obtain ⟨a, ha⟩ : ∃ v, l[0]? = some v := ⟨_, List.getElem?_eq_getElem (by omega)⟩
    obtain ⟨b, hb⟩ : ∃ v, l[1]? = some v := ⟨_, List.getElem?_eq_getElem (by omega)⟩
    obtain ⟨c, hc⟩ : ∃ v, l[2]? = some v := ⟨_, List.getElem?_eq_getElem (by omega)⟩
    have hra := vl_get ha
    have hrb := vl_get hb
    have hrc := vl_get hc
    have htr := c_rtruth a
    have hob := hok b (List.mem_of_getElem? hb)
    have hoc := hok c (List.mem_of_getElem? hc)
    generalize truthV a = T at htr
    obtain ⟨ak, ai, at'⟩ := a
    obtain ⟨bk, bi, bt⟩ := b
    obtain ⟨ck, ci, ct⟩ := c
    refine afun_body T_ok mixed Tryz.func66 rfl (ent_of Tryz.func66 rfl rfl) (Nat.le_of_ble_eq_true rfl) ?_
    repeat' (first | exact True.intro | apply And.intro | (intro h; exact Bool.noConfusion h) | exact ok_op (by kernel_rfl) | exact ok_tr (by kernel_rfl) | intro _ | refine Exists.intro _ (And.intro (by decide) (And.intro hra (And.intro rfl ?_))) | refine Exists.intro _ (And.intro (by decide) (And.intro hrb (And.intro rfl ?_))) | refine Exists.intro _ (And.intro (by decide) (And.intro hrc (And.intro rfl ?_))) | refine callR_of_fun htr.afun rfl ?_ | exact some_of hob | exact some_of hoc | rfl | refine @Exists.intro Bool _ true ?_ | refine @Exists.intro Way _ .call ?_)
    all_goals (exfalso; exact absurd h22 (beq_eq_false_iff_ne.1 ‹(op == 22) = false›))
  · refine afun_body T_ok mixed Tryz.func66 rfl (ent_of Tryz.func66 rfl rfl) (Nat.le_of_ble_eq_true rfl) ?_
    repeat' (first | exact True.intro | apply And.intro | (intro h; exact Bool.noConfusion h) | exact ok_op (by kernel_rfl) | exact ok_tr (by kernel_rfl) | intro _ | rfl | refine @Exists.intro Bool _ true ?_ | refine @Exists.intro Way _ .call ?_)
    all_goals first
      | (exfalso; exact h22 (eq_of_beq ‹(op == 22) = true›))
      | skip
    refine ⟨fun m st => ∃ j : Nat, j ≤ l.length ∧ m = l.length - j ∧ st = AS.on [(1, vlA l), (4, .lv (.ptr 0 0)), (5, .i j)] [(0, .box 29 [li 0, li 0, .pv (.str emp)])] 1 36 0 (fun _ => false), ⟨l.length, _, ⟨0, Nat.zero_le _, rfl, rfl⟩, ?_⟩, ?_⟩
    · refine weak_on rfl rfl rfl rfl ?_ ?_
      · repeat' (first | exact True.intro | apply And.intro | (intro h; exact Bool.noConfusion h) | exact ok_op (by kernel_rfl) | exact ok_tr (by kernel_rfl) | intro _ | rfl | refine @Exists.intro Bool _ true ?_ | refine @Exists.intro Way _ .call ?_)
      · repeat' (first | exact True.intro | apply And.intro | (intro h; exact Bool.noConfusion h) | exact ok_op (by kernel_rfl) | exact ok_tr (by kernel_rfl) | intro _ | rfl | refine Exists.intro _ (And.intro rfl ?_) | refine @Exists.intro Bool _ true ?_ | refine @Exists.intro Way _ .call ?_)
    · rintro m st ⟨j, hj, rfl, rfl⟩
      by_cases hlt : j < l.length
      · obtain ⟨x, hx⟩ : ∃ x, l[j]? = some x := ⟨_, List.getElem?_eq_getElem hlt⟩
        have hrow := vlRow_get hx
        have hox := hok x (List.mem_of_getElem? hx)
        obtain ⟨k, i, t⟩ := x
        repeat' (first | exact True.intro | apply And.intro | (intro h; exact Bool.noConfusion h) | exact ok_op (by kernel_rfl) | exact ok_tr (by kernel_rfl) | intro _ | refine Exists.intro _ (And.intro (Int.natCast_nonneg j) (And.intro hrow (And.intro rfl ?_))) | exact some_of hox | rfl | refine @Exists.intro Bool _ true ?_ | refine @Exists.intro Way _ .call ?_)
        all_goals first
          | (exfalso; have := of_decide_eq_false ‹decide ((j : Int) < (l.map Vl.row).length) = false›; omega)
          | skip
        refine ⟨l.length - (j + 1), _, by omega, ⟨j + 1, hlt, rfl, rfl⟩, weak_on rfl rfl rfl rfl ?_ ?_⟩
        · repeat' (first | exact True.intro | apply And.intro | (intro h; exact Bool.noConfusion h) | exact ok_op (by kernel_rfl) | exact ok_tr (by kernel_rfl) | intro _ | rfl | (apply fin_i; rw [wrap_id] <;> omega) | refine @Exists.intro Bool _ true ?_ | refine @Exists.intro Way _ .call ?_)
        · repeat' (first | exact True.intro | apply And.intro | (intro h; exact Bool.noConfusion h) | exact ok_op (by kernel_rfl) | exact ok_tr (by kernel_rfl) | intro _ | rfl | refine Exists.intro _ (And.intro rfl ?_) | refine @Exists.intro Bool _ true ?_ | refine @Exists.intro Way _ .call ?_)
      · repeat' (first | exact True.intro | apply And.intro | (intro h; exact Bool.noConfusion h) | exact ok_op (by kernel_rfl) | exact ok_tr (by kernel_rfl) | intro _ | refine callR_of_fun c_rnull.afun rfl ?_ | exact some_of ok_null | rfl | refine @Exists.intro Bool _ true ?_ | refine @Exists.intro Way _ .call ?_)
        all_goals (exfalso; have := of_decide_eq_true ‹decide ((j : Int) < (l.map Vl.row).length) = true›; omega)
end Go.Proofs.YtijjagkeaehhbaaGreat.Eng

/- That the reference's relation of periods returns something, and what related does. Each function's arguments and the stated bounds are its condition. -/
set_option linter.unusedSimpArgs false
set_option linter.unusedVariables false
namespace Go.Proofs.YtijjagkeaehhbaaGreat.Eng
open Go.RowKit (Below)

set_option maxHeartbeats 2000000 in
set_option maxRecDepth 20000 in
theorem c_ris (rel a b c d : Int) : AFunR Tryz.prog 179 [.i rel, per a b, per c d] someB := by
  refine afun_body T_ok mixed Tryz.func179 rfl (ent_of Tryz.func179 rfl rfl) (Nat.le_of_ble_eq_true rfl) ?_
  repeat' (first | exact True.intro | apply And.intro | (intro h; exact Bool.noConfusion h) | exact ok_op (by kernel_rfl) | exact ok_tr (by kernel_rfl) | intro _ | refine Exists.intro _ (And.intro (eq_per _ _ _ _ _ _) ?_) | exact ⟨_, rfl⟩ | refine @Exists.intro Bool _ true ?_ | refine @Exists.intro Way _ .call ?_)
theorem c_rholds (rel a b c d : Int) : AFunR Tryz.prog 148 [.i rel, per a b, per c d] someB := by
  refine afun_body T_ok mixed Tryz.func148 rfl (ent_of Tryz.func148 rfl rfl) (Nat.le_of_ble_eq_true rfl) ?_
  repeat' (first | exact True.intro | apply And.intro | (intro h; exact Bool.noConfusion h) | exact ok_op (by kernel_rfl) | exact ok_tr (by kernel_rfl) | intro _ | refine callR_of_fun (c_rvalid _ _).afun rfl ?_ | refine callR_of_someB (c_ris _ _ _ _ _) rfl ?_ | exact ⟨_, rfl⟩ | refine @Exists.intro Bool _ true ?_ | refine @Exists.intro Way _ .call ?_)
def someIB : AV → Prop := fun r => ∃ (n : Int) (b : Bool), r = .tup [.lf (li n), .lf (.pv (.bool b))]
theorem callR_of_someIB {P : Program} {g : Nat} {args : List AV} (h : AFunR P g args someIB) (hp : aids args = []) {s : AS} {R : AV → AS → Prop} (hR : ∀ (n : Int) (b : Bool), R (.tup [.lf (li n), .lf (.pv (.bool b))]) s) : CallR P g args s R :=
  callR_of_funR h hp fun r ⟨n, b, hn⟩ => by subst hn; exact hR n b
theorem c_rrelation (a b c d : Int) : AFunR Tryz.prog 109 [per a b, per c d] someIB := by
  refine afun_body T_ok mixed Tryz.func109 rfl (ent_of Tryz.func109 rfl rfl) (Nat.le_of_ble_eq_true rfl) ?_
  repeat' (first | exact True.intro | apply And.intro | (intro h; exact Bool.noConfusion h) | exact ok_op (by kernel_rfl) | exact ok_tr (by kernel_rfl) | intro _ | rfl | refine @Exists.intro Bool _ true ?_ | refine @Exists.intro Way _ .call ?_)
  refine ⟨fun m st => ∃ j : Nat, j ≤ 13 ∧ m = 13 - j ∧ st = AS.on [(2, .lv (.ptr 0 0)), (3, .lv (.ptr 1 0)), (6, .i j)] [(0, .box 35 [li a, li b]), (1, .box 35 [li c, li d])] 2 16 0 (fun _ => false), ⟨13, _, ⟨0, Nat.zero_le _, rfl, rfl⟩, ?_⟩, ?_⟩
  · refine weak_on rfl rfl rfl rfl ?_ ?_
    · repeat' (first | exact True.intro | apply And.intro | (intro h; exact Bool.noConfusion h) | exact ok_op (by kernel_rfl) | exact ok_tr (by kernel_rfl) | intro _ | rfl | refine @Exists.intro Bool _ true ?_ | refine @Exists.intro Way _ .call ?_)
    · repeat' (first | exact True.intro | apply And.intro | (intro h; exact Bool.noConfusion h) | exact ok_op (by kernel_rfl) | exact ok_tr (by kernel_rfl) | intro _ | rfl | refine Exists.intro _ (And.intro rfl ?_) | refine @Exists.intro Bool _ true ?_ | refine @Exists.intro Way _ .call ?_)
  · rintro m st ⟨j, hj, rfl, rfl⟩
    by_cases hlt : j < 13
    · repeat' (first | exact True.intro | apply And.intro | (intro h; exact Bool.noConfusion h) | exact ok_op (by kernel_rfl) | exact ok_tr (by kernel_rfl) | intro _ | refine callR_of_someB (c_rholds _ _ _ _ _) rfl ?_ | exact ⟨_, _, rfl⟩ | rfl | refine @Exists.intro Bool _ true ?_ | refine @Exists.intro Way _ .call ?_)
      all_goals first
        | (exfalso; have := of_decide_eq_false ‹decide ((j : Int) < 13) = false›; omega)
        | skip
      refine ⟨13 - (j + 1), _, by omega, ⟨j + 1, hlt, rfl, rfl⟩, weak_on rfl rfl rfl rfl ?_ ?_⟩
      · repeat' (first | exact True.intro | apply And.intro | (intro h; exact Bool.noConfusion h) | exact ok_op (by kernel_rfl) | exact ok_tr (by kernel_rfl) | intro _ | rfl | (apply fin_i; rw [wrap_id] <;> omega) | refine @Exists.intro Bool _ true ?_ | refine @Exists.intro Way _ .call ?_)
      · repeat' (first | exact True.intro | apply And.intro | (intro h; exact Bool.noConfusion h) | exact ok_op (by kernel_rfl) | exact ok_tr (by kernel_rfl) | intro _ | rfl | refine Exists.intro _ (And.intro rfl ?_) | refine @Exists.intro Bool _ true ?_ | refine @Exists.intro Way _ .call ?_)
    · repeat' (first | exact True.intro | apply And.intro | (intro h; exact Bool.noConfusion h) | exact ok_op (by kernel_rfl) | exact ok_tr (by kernel_rfl) | intro _ | exact ⟨_, _, rfl⟩ | rfl | refine @Exists.intro Bool _ true ?_ | refine @Exists.intro Way _ .call ?_)
      all_goals (exfalso; have := of_decide_eq_true ‹decide ((j : Int) < 13) = true›; omega)
theorem c_rrelated (rel : Int) (l : List Vl) (hl : l.length ≤ 1099511627776) (h4 : 4 ≤ l.length) : AFunR Tryz.prog 67 [.i rel, vlA l] someV := by
  have hare := c_rare l 1 (by omega)
  obtain ⟨a, ha⟩ : ∃ v, l[0]? = some v := ⟨_, List.getElem?_eq_getElem (by omega)⟩
  obtain ⟨b, hb⟩ : ∃ v, l[1]? = some v := ⟨_, List.getElem?_eq_getElem (by omega)⟩
  obtain ⟨c, hc⟩ : ∃ v, l[2]? = some v := ⟨_, List.getElem?_eq_getElem (by omega)⟩
  obtain ⟨d, hd⟩ : ∃ v, l[3]? = some v := ⟨_, List.getElem?_eq_getElem (by omega)⟩
  have hra := vl_get ha
  have hrb := vl_get hb
  have hrc := vl_get hc
  have hrd := vl_get hd
  obtain ⟨ak, ai, at'⟩ := a
  obtain ⟨bk, bi, bt⟩ := b
  obtain ⟨ck, ci, ct⟩ := c
  obtain ⟨dk, di, dt⟩ := d
  clear ha hb hc hd
  generalize areB l 1 = q at hare
  refine afun_body T_ok mixed Tryz.func67 rfl (ent_of Tryz.func67 rfl rfl) (Nat.le_of_ble_eq_true rfl) ?_
  cases q <;> repeat' (first | exact True.intro | apply And.intro | (intro h; exact Bool.noConfusion h) | exact ok_op (by kernel_rfl) | exact ok_tr (by kernel_rfl) | intro _ | refine callR_of_fun hare.afun rfl ?_ | refine callR_of_fun c_rnull.afun rfl ?_ | refine callR_of_fun (c_rbool _).afun rfl ?_ | refine Exists.intro _ (And.intro (by decide) (And.intro hra (And.intro rfl ?_))) | refine Exists.intro _ (And.intro (by decide) (And.intro hrb (And.intro rfl ?_))) | refine Exists.intro _ (And.intro (by decide) (And.intro hrc (And.intro rfl ?_))) | refine Exists.intro _ (And.intro (by decide) (And.intro hrd (And.intro rfl ?_))) | refine callR_of_someIB (c_rrelation _ _ _ _) rfl ?_ | exact some_of ok_null | exact some_of (ok_bool _) | rfl | refine @Exists.intro Bool _ true ?_ | refine @Exists.intro Way _ .call ?_)
  all_goals first
    | (exfalso; exact absurd ‹(!false) = false› (by decide))
    | (exfalso; exact absurd ‹(!true) = true› (by decide))
end Go.Proofs.YtijjagkeaehhbaaGreat.Eng
