/- The engine: a region that draws its order, whole. -/
import Derived.Test.YtijjagkeaehhbaaEngP
set_option linter.unusedSimpArgs false
set_option linter.unusedVariables false
namespace Go.Proofs.Ytijjagkeaehhbaa.Eng
open Go.RowKit (Below)

theorem AS.ext' {s t : AS} (h1 : s.fr = t.fr) (h2 : s.hp = t.hp) (h3 : s.nx = t.nx) (h4 : s.n = t.n) (h5 : s.n0 = t.n0) (h6 : s.c0 = t.c0) : s = t := by
  cases s; cases t; simp only at h1 h2 h3 h4 h5 h6; subst h1 h2 h3 h4 h5 h6; rfl

theorem same_some {d : Nat} : same (some d) (some d) = true := Nat.beq_refl d
theorem conf1 {e e' : Ef} {d : Nat} (h : e.d = some d) (h' : d ∈ e'.rs) : confl e e' = true ∧ confl e' e = true := by
  have : hitO e.d e'.rs = true := by rw [h]; exact memb_iff.2 h'
  simp [confl, this]
theorem conf2 {e e' : Ef} {d : Nat} (h : e.d = some d) (h' : e'.d = some d) : confl e e' = true ∧ confl e' e = true := by
  have h1 : same e.d e'.d = true := by rw [h, h']; exact same_some
  have h2 : same e'.d e.d = true := by rw [h, h']; exact same_some
  simp [confl, h1, h2]
theorem conf3 {e e' : Ef} {i : Nat} {o : AObj} (h : e.u = some (i, o)) (h' : i ∈ e'.ri) : confl e e' = true ∧ confl e' e = true := by
  have : hitO e.uid e'.ri = true := by rw [show e.uid = some i from by rw [Ef.uid, h]]; exact memb_iff.2 h'
  simp [confl, this]
theorem conf4 {e e' : Ef} {i : Nat} {o o' : AObj} (h : e.u = some (i, o)) (h' : e'.u = some (i, o')) : confl e e' = true ∧ confl e' e = true := by
  have a : e.uid = some i := by rw [Ef.uid, h]
  have b : e'.uid = some i := by rw [Ef.uid, h']
  have h1 : same e.uid e'.uid = true := by rw [a, b]; exact same_some
  have h2 : same e'.uid e.uid = true := by rw [a, b]; exact same_some
  simp [confl, h1, h2]

/-- What is known of a region in the text's order. -/
structure Laid (P : Program) (T : Tab) (ops : Array Oper) (base : Nat) (s0 : AS) (τ : List Ef) : Prop where
  len : τ.length = ops.size
  good : ∀ (k : Nat) (o : Oper), ops[k]? = some o → ∃ e, τ[k]? = some e ∧ Good P T ops base (runE (fun j => Nat.blt j k) τ 0 s0) k o e
  edge : ∀ (k : Nat) (o : Oper), ops[k]? = some o → ∀ e ∈ o.after, Region.binds .any e = true → e.on < k
  pair : ∀ (i j : Nat) (e e' : Ef), i < j → τ[i]? = some e → τ[j]? = some e' → base + j ∉ e.ids ∧ ((confl e e' = true ∨ base + i ∈ e'.ids) → Bef ops i j)
  fr : ∀ d, ∀ i ∈ (s0.fr d).ids, i < base
  hp : ∀ id o, s0.hp id = some o → id < base
  bx : ∀ id t cs, s0.hp id = some (.box t cs) → ∀ i ∈ lids cs, i < base
  n0 : s0.n0 ≤ base
  nx : s0.nx = base + ops.size

section
variable {P : Program} {T : Tab} {ops : Array Oper} {base : Nat} {s0 : AS} {τ : List Ef} {L : Nat → Bool} {k : Nat} {o : Oper} {e : Ef} {C : Ctx} {S : Nat → Prop} {σ : Nat → Value} {a : Act} {w : World}

theorem Laid.agree (hl : Laid P T ops base s0 τ) (hc : Closed ops L) (hr : Ready ops L k) (hk : L k = false) (he : τ[k]? = some e) {i : Nat} {e' : Ef} (hi : τ[i]? = some e') (hf : confl e e' = true ∧ confl e' e = true) : L i = Nat.blt i k := by
  rcases Nat.lt_trichotomy i k with h | h | h
  · rw [show Nat.blt i k = true from by rw [Nat.blt_eq]; exact h]
    exact (hl.pair i k e' e h hi he).2 (.inl hf.2) L hc hr
  · subst h
    rw [hk, show Nat.blt i i = false from by rw [Bool.eq_false_iff]; intro hb; rw [Nat.blt_eq] at hb; omega]
  · rw [show Nat.blt i k = false from by rw [Bool.eq_false_iff]; intro hb; rw [Nat.blt_eq] at hb; omega]
    rw [Bool.eq_false_iff]
    intro hLi
    have := (hl.pair k i e e' h he hi).2 (.inl hf.1) L hc (fun o ho => hc i o hLi ho)
    rw [hk] at this
    cases this

theorem Laid.slot (hl : Laid P T ops base s0 τ) (hc : Closed ops L) (hr : Ready ops L k) (hk : L k = false) (he : τ[k]? = some e) {d : Nat} (hd : d ∈ e.rs) : (runE L τ 0 s0).fr d = (runE (fun j => Nat.blt j k) τ 0 s0).fr d :=
  runE_fr τ 0 s0 s0 rfl fun i e' hi hw => by rw [Nat.zero_add]; exact hl.agree hc hr hk he hi (conf1 hw hd).symm
theorem Laid.obj (hl : Laid P T ops base s0 τ) (hc : Closed ops L) (hr : Ready ops L k) (hk : L k = false) (he : τ[k]? = some e) {d : Nat} (hd : d ∈ e.ri) : (runE L τ 0 s0).hp d = (runE (fun j => Nat.blt j k) τ 0 s0).hp d :=
  runE_hp τ 0 s0 s0 rfl fun i e' o hi hw => by rw [Nat.zero_add]; exact hl.agree hc hr hk he hi (conf3 hw hd).symm

theorem Laid.fresh (hl : Laid P T ops base s0 τ) (hc : Closed ops L) (hr : Ready ops L k) (hk : L k = false) (hks : k < ops.size) (he : τ[k]? = some e) : Fresh (runE L τ 0 s0) (base + k) := by
  obtain ⟨h1, h2, h3, h4⟩ := runE_rest (p := L) τ 0 s0
  -- nobody listed bears the name
  have no : ∀ i e', τ[i]? = some e' → L i = true → base + k ∉ e'.ids := by
    intro i e' hi hLi hm
    rcases Nat.lt_trichotomy i k with h | h | h
    · exact (hl.pair i k e' e h hi he).1 hm
    · subst h; rw [hk] at hLi; cases hLi
    · have := (hl.pair k i e e' h he hi).2 (.inr hm) L hc (fun o ho => hc i o hLi ho)
      rw [hk] at this
      cases this
  refine ⟨?_, fun d hm => ?_, fun j t cs hj hm => ?_, by rw [h2, hl.nx]; omega, by rw [h3]; have := hl.n0; omega⟩
  · rcases runE_hp_from (p := L) (base + k) τ 0 s0 with h | ⟨i, e', ob, hi, hLi, hu, _⟩
    · rw [h]
      cases hh : s0.hp (base + k) with
      | none => rfl
      | some ob => have := hl.hp _ _ hh; omega
    · refine absurd ?_ (no i e' hi (by rwa [Nat.zero_add] at hLi))
      refine List.mem_append_right _ ?_
      rw [hu]
      cases ob <;> simp [objIds]
  · rcases runE_fr_from (p := L) d τ 0 s0 with h | ⟨i, e', hi, hLi, hu, hv⟩
    · rw [h] at hm; have := hl.fr d _ hm; omega
    · rw [hv] at hm
      exact no i e' hi (by rwa [Nat.zero_add] at hLi) (List.mem_append_left _ hm)
  · rcases runE_hp_from (p := L) j τ 0 s0 with h | ⟨i, e', ob, hi, hLi, hu, hv⟩
    · rw [h] at hj; have := hl.bx _ _ _ hj _ hm; omega
    · rw [hv] at hj
      simp only [Option.some.injEq] at hj
      subst hj
      refine no i e' hi (by rwa [Nat.zero_add] at hLi) (List.mem_append_right _ ?_)
      rw [hu]
      exact List.mem_cons_of_mem _ hm

theorem Laid.next (hl : Laid P T ops base s0 τ) (hc : Closed ops L) (hr : Ready ops L k) (hk : L k = false) (he : τ[k]? = some e) :
    (runE L τ 0 s0).eff e.d e.v e.u = runE (fun i => L i || Nat.beq i k) τ 0 s0 := by
  obtain ⟨h1, h2, h3, h4⟩ := runE_rest (p := L) τ 0 s0
  obtain ⟨g1, g2, g3, g4⟩ := runE_rest (p := fun i => L i || Nat.beq i k) τ 0 s0
  refine AS.ext' ?_ ?_ (h2.trans g2.symm) (h1.trans g1.symm) (h3.trans g3.symm) (h4.trans g4.symm)
  · funext d
    by_cases hd : e.d = some d
    · rw [hd, eff_fr_eq]
      refine (runE_last_fr τ 0 s0 k e he hd (by simp) fun j e' hj hi hw => ?_).symm
      rw [Nat.zero_add, hl.agree hc hr hk he hi (conf2 hd hw), beq_ne (by omega), Bool.or_false, Bool.eq_false_iff]
      intro hb; rw [Nat.blt_eq] at hb; omega
    · rw [eff_fr_ne hd]
      refine runE_fr τ 0 s0 s0 rfl fun i e' hi hw => ?_
      have : i ≠ k := fun e1 => by subst e1; rw [he] at hi; simp only [Option.some.injEq] at hi; subst hi; exact hd hw
      simp only [Nat.zero_add, beq_ne this, Bool.or_false]
  · funext d
    by_cases hd : ∃ ob, e.u = some (d, ob)
    · obtain ⟨ob, hd⟩ := hd
      rw [hd, eff_hp_eq]
      refine (runE_last_hp τ 0 s0 k e he hd (by simp) fun j e' o' hj hi hw => ?_).symm
      rw [Nat.zero_add, hl.agree hc hr hk he hi (conf4 hd hw), beq_ne (by omega), Bool.or_false, Bool.eq_false_iff]
      intro hb; rw [Nat.blt_eq] at hb; omega
    · rw [eff_hp_ne fun j ob hj e1 => hd ⟨ob, by rw [hj, e1]⟩]
      refine runE_hp τ 0 s0 s0 rfl fun i e' o' hi hw => ?_
      have : i ≠ k := fun e1 => by subst e1; rw [he] at hi; simp only [Option.some.injEq] at hi; subst hi; exact hd ⟨o', hw⟩
      simp only [Nat.zero_add, beq_ne this, Bool.or_false]

theorem decides_wanted {s : AS} (hs : SR C s S σ a w) {b : Bool} (h : Decides s ops o b) : Region.wanted o (yielded ops a.tmps) = b := by
  unfold Decides at h
  unfold Region.wanted
  split at h
  · rename_i hg; rw [hg]; exact h.symm
  · rename_i j want hg
    rw [hg]
    obtain ⟨g, h1, ⟨c, h2, h3⟩ | ⟨h2, h3⟩⟩ := h
    · have hv := hs.fr g
      rw [h2] at hv
      have hv := hv.bool_inv
      have : a.tmps[g]? = some (.bool c) := by
        rcases Nat.lt_or_ge g a.tmps.size with hlt | hge
        · rw [Array.getElem?_eq_getElem hlt]
          simp only [Array.getD_eq_getD_getElem?, Array.getElem?_eq_getElem hlt, Option.getD_some] at hv
          rw [hv]
        · simp only [Array.getD_eq_getD_getElem?, Array.getElem?_eq_none hge, Option.getD_none] at hv
          cases hv
      simp only [yielded, h1, Option.bind_some, this]
      rw [← h3]
      cases c <;> cases want <;> rfl
    · have hv := hs.fr g
      rw [h2] at hv
      subst h3
      have key : ∀ x : Option Value, (x = none ∨ ∃ vs, x = some (.tuple vs)) → ((match x with | some (.bool b) => some b | _ => none : Option Bool) == some want) = false := by
        rintro x (rfl | ⟨vs, rfl⟩) <;> rfl
      have hx : a.tmps[g]? = none ∨ ∃ vs, a.tmps[g]? = some (.tuple vs) := by
        cases hx : a.tmps[g]? with
        | none => exact .inl rfl
        | some x =>
          simp only [Array.getD_eq_getD_getElem?, hx, Option.getD_some] at hv
          cases hv with
          | tup hn _ => exact .inr ⟨_, rfl⟩
      simp only [yielded, h1, Option.bind_some]
      exact key _ hx

theorem decides_congr {s s' : AS} (h : ∀ d ∈ o.looksAt ops, s.fr d = s'.fr d) {b : Bool} (hd : Decides s ops o b) : Decides s' ops o b := by
  unfold Decides at *
  split at hd
  · exact hd
  · rename_i j want hg
    obtain ⟨g, h1, h2⟩ := hd
    refine ⟨g, h1, ?_⟩
    rw [← h g ?_]
    · exact h2
    · unfold Oper.looksAt
      rw [hg]
      refine List.mem_append_right _ ?_
      simp [h1]

/-- One operation, whichever comes next. -/
theorem Laid.one (hT : TOK P T) (hl : Laid P T ops base s0 τ) (hc : Closed ops L) (hr : Ready ops L k) (hk : L k = false) (ho : ops[k]? = some o) (hs : SR C (runE L τ 0 s0) S σ a w) {Q : Exit → Act → World → Prop} {K : Act → World → Prop}
    (hK : ∀ a' w', St C (runE (fun i => L i || Nat.beq i k) τ 0 s0) a' w' → K a' w') : wpOp P ops Q k K a w := by
  have hks : k < ops.size := (Array.getElem?_eq_some_iff.1 ho).1
  obtain ⟨e, he, hg⟩ := hl.good k o ho
  have hsl : ∀ d ∈ o.looksAt ops, (runE (fun j => Nat.blt j k) τ 0 s0).fr d = (runE L τ 0 s0).fr d := fun d hd => (hl.slot hc hr hk he (by rw [hg.rs]; exact hd)).symm
  have hev : ∀ x ∈ o.op.operands, (runE (fun j => Nat.blt j k) τ 0 s0).ev x = (runE L τ 0 s0).ev x := by
    intro x hx
    cases x with
    | tmp t => exact hsl t (List.mem_append_left _ (List.mem_filterMap.2 ⟨.tmp t, Array.mem_toList_iff.2 hx, rfl⟩))
    | _ => rfl
  have hn : ∀ d, o.dst = some d → d < (runE L τ 0 s0).n := fun d hd => by
    have := hg.dlt d hd
    rw [(runE_rest (p := fun j => Nat.blt j k) τ 0 s0).1] at this
    rw [(runE_rest (p := L) τ 0 s0).1]
    exact this
  have hw := decides_wanted hs (decides_congr hsl hg.dec)
  have hnx := hl.next hc hr hk he
  unfold wpOp
  simp only [ho]
  cases hrun : e.run with
  | true =>
    rw [hrun] at hw
    simp only [hw, if_true]
    refine .inl ?_
    have hstep := hg.step hrun
    rw [stepOp_congr hev (fun j hj => (hl.obj hc hr hk he (by rw [hg.ri hrun]; exact hj)).symm)] at hstep
    have := step_sound hT hs (hl.fresh hc hr hk hks he) hn (fun x hx => by rw [← hev x hx]; exact hg.fresh hrun x hx) hstep Q
    refine Oper.wp_mono ?_ this
    rintro a' w' ⟨s', rfl, hs'⟩
    rw [← hg.d, hnx] at hs'
    exact hK a' w' hs'
  | false =>
    rw [hrun] at hw
    simp only [hw, Bool.false_eq_true, if_false]
    obtain ⟨hv, hu⟩ := hg.skip hrun
    obtain ⟨s', h1, h2⟩ := hs.put (d := o.dst) (v := .tup []) (cv := undef) (.tup rfl (by simp)) (put_eff hn rfl)
    subst h1
    refine hK _ _ ⟨S, σ, ?_⟩
    rw [← hnx, hg.d, hv, hu]
    exact h2

theorem draw_main (hT : TOK P T) (hl : Laid P T ops base s0 τ) {Q : Exit → Act → World → Prop} (hQ : ∀ a' w', St C (runE (fun _ => true) τ 0 s0) a' w' → Q .normal a' w') :
    ∀ (fuel : Nat) (listed : Array Bool) (rem : List Nat) (a : Act) (w : World), listed.size = ops.size → rem.Nodup → (∀ i, i < ops.size → listed.getD i false = false → i ∈ rem) → rem.length ≤ fuel → Closed ops (fun i => listed.getD i false) →
      St C (runE (fun i => listed.getD i false) τ 0 s0) a w → wpAny P .any ops Q fuel listed a w := by
  intro fuel
  have fin : ∀ (listed : Array Bool) (a : Act) (w : World), listed.size = ops.size → (∀ i, i < ops.size → listed.getD i false = true) → St C (runE (fun i => listed.getD i false) τ 0 s0) a w → Q .normal a w := by
    intro listed a w hsz hall hst
    refine hQ a w ?_
    rw [runE_congr (q := fun i => listed.getD i false)]
    · exact hst
    · intro i hi
      rw [Nat.zero_add, hall i (by rw [← hl.len]; exact hi)]
  have noready : ∀ listed : Array Bool, listed.size = ops.size → Region.ready .any ops listed = [] → ∀ i, i < ops.size → listed.getD i false = true := by
    intro listed hsz hnil i
    induction i using Nat.strongRecOn with
    | _ i ih =>
      intro hi
      by_cases hb : listed.getD i false = true
      · exact hb
      · exfalso
        have hmem : i ∈ Region.ready .any ops listed := by
          rw [mem_ready]
          have ho : ops[i]? = some ops[i] := Array.getElem?_eq_getElem hi
          refine ⟨?_, _, ho, fun e he hbd => ?_⟩
          · have hlt : i < listed.size := by omega
            simp only [Array.getD_eq_getD_getElem?, Array.getElem?_eq_getElem hlt, Option.getD_some] at hb ⊢
            simpa using hb
          · have := hl.edge i _ ho e he hbd
            exact ih e.on this (by omega)
        rw [hnil] at hmem
        cases hmem
  induction fuel with
  | zero =>
    intro listed rem a w hsz hnd hrem hlen hc hst
    have hr0 : rem = [] := List.eq_nil_of_length_eq_zero (by omega)
    subst hr0
    have hall : ∀ i, i < ops.size → listed.getD i false = true := fun i hi => by
      by_cases hb : listed.getD i false = true
      · exact hb
      · have := hrem i hi (by simpa using hb); cases this
    refine ⟨?_, fin listed a w hsz hall hst⟩
    rw [List.eq_nil_iff_forall_not_mem]
    intro i hi
    obtain ⟨h1, o, ho, _⟩ := mem_ready.1 hi
    have hlt : i < ops.size := (Array.getElem?_eq_some_iff.1 ho).1
    have := hall i hlt
    have hlt' : i < listed.size := by omega
    simp only [Array.getD_eq_getD_getElem?, Array.getElem?_eq_getElem hlt', Option.getD_some] at this h1
    rw [this] at h1
    cases h1
  | succ fuel ih =>
    intro listed rem a w hsz hnd hrem hlen hc hst
    refine ⟨fun hnil => fin listed a w hsz (noready listed hsz hnil) hst, fun k hk => ?_⟩
    obtain ⟨h1, o, ho, hpre⟩ := mem_ready.1 hk
    have hlt : k < ops.size := (Array.getElem?_eq_some_iff.1 ho).1
    have hlt' : k < listed.size := by omega
    have hkf : listed.getD k false = false := by
      simp only [Array.getD_eq_getD_getElem?, Array.getElem?_eq_getElem hlt', Option.getD_some] at h1 ⊢
      exact h1
    obtain ⟨S, σ, hs⟩ := hst
    refine hl.one hT hc (fun o' ho' e he hb => by rw [ho] at ho'; simp only [Option.some.injEq] at ho'; subst ho'; exact hpre e he hb) hkf ho hs fun a' w' hst' => ?_
    have hL : (fun i => (listed.setIfInBounds k true).getD i false) = fun i => listed.getD i false || Nat.beq i k := by
      funext i
      by_cases hik : k = i
      · subst hik
        rw [Nat.beq_refl, Bool.or_true]
        simp [hlt']
      · rw [getD_set_ne false hik, beq_ne (Ne.symm hik), Bool.or_false]
    refine ih (listed.setIfInBounds k true) (rem.erase k) a' w' (by simpa using hsz) (hnd.erase k) (fun i hi hf => ?_) ?_ ?_ ?_
    · have hik : k ≠ i := fun e => by subst e; have := congrFun hL k; simp only [Nat.beq_refl, Bool.or_true] at this; rw [this] at hf; cases hf
      rw [getD_set_ne false hik] at hf
      exact (List.mem_erase_of_ne (Ne.symm hik)).2 (hrem i hi hf)
    · have := List.length_erase_of_mem (hrem k hlt hkf)
      omega
    · intro k' o' hk' ho' e he hb
      have h2 : (listed.setIfInBounds k true).getD k' false = (listed.getD k' false || Nat.beq k' k) := congrFun hL k'
      have hk' : (listed.setIfInBounds k true).getD k' false = true := hk'
      rw [h2] at hk'
      have h3 : (listed.setIfInBounds k true).getD e.on false = (listed.getD e.on false || Nat.beq e.on k) := congrFun hL e.on
      refine h3.trans ?_
      rcases Bool.or_eq_true_iff.1 hk' with hk' | hk'
      · rw [Bool.or_eq_true]; exact .inl (hc k' o' hk' ho' e he hb)
      · have := Nat.eq_of_beq_eq_true hk'
        subst this
        rw [ho] at ho'
        simp only [Option.some.injEq] at ho'
        subst ho'
        rw [Bool.or_eq_true]; exact .inl (hpre e he hb)
    · rw [hL]; exact hst'

theorem SR.bump {s : AS} (hs : SR C s S σ a w) (n : Nat) : SR C (s.bump n) S σ a w := by
  have hle : s.nx ≤ s.nx + n := Nat.le_add_right _ _
  refine ⟨hs.size, hs.defers, fun i => (hs.fr i).mono (fun _ _ => rfl) (fun _ h => h) (fun _ _ => rfl) hle, ⟨fun id o ho => Nat.lt_of_lt_of_le (hs.hp.lt id o ho) hle, fun id o ho => ?_, hs.hp.notS, hs.hp.own, hs.hp.inj⟩, hs.lt, hs.le, hs.keep, Nat.le_trans hs.nx hle, hs.hs, hs.up⟩
  exact (hs.hp.obj id o ho).mono (fun _ _ => rfl) (fun _ h => h) (fun _ _ => rfl) hle (hs.hp.lt id o ho) (fun b _ => rfl)

theorem draw_sound (hT : TOK P T) (hm : P.follows .mixedOrders = true) {s : AS} (hs : SR C s S σ a w) {K : AS → Prop} (h : vcRegionDraw P T ops s K) {id : Nat} {Q : Exit → Act → World → Prop} (hQ : ∀ a' w' s', K s' → St C s' a' w' → Q .normal a' w') :
    (Code.region id ops true).wp P Q a w := by
  refine wp_region_any hm ?_
  obtain ⟨t, h1, ⟨h2, h3⟩, h4⟩ := vcDraw_spec ops.toList 0 [] (s.bump ops.size) rfl rfl h
  simp only [List.reverse_nil, List.nil_append, Nat.zero_add] at h2 h3 h4
  simp only [okTrace, Bool.and_eq_true] at h2
  have hl : Laid P T ops s.nx (s.bump ops.size) t := by
    refine ⟨by simpa using h1, fun k o ho => h4 k o (by simpa using ho), fun k o ho e he hb => ?_, fun i j e e' hij hi hj => ?_, fun d i hi => ids_lt (hs.fr d) i hi, fun id o ho => hs.hp.lt id o ho, fun id t cs ho i hi => ?_, hs.nx, rfl⟩
    · have := edgesOk_spec ops.toList 0 h2.1 k o (by simpa using ho) e he hb
      omega
    · have := okAll_spec t _ 0 h2.2 i j e e' hij hi hj
      rw [Nat.zero_add, Nat.zero_add] at this
      refine ⟨this.1, fun hc => ?_⟩
      obtain ⟨m, hm, hb⟩ := this.2 hc
      exact ancL_spec ops.toList [] (fun i => by simp) (fun k m hk => by simp at hk) j m hm i hb
    · obtain ⟨b, vs, _, _, h5⟩ := hs.hp.obj id _ ho
      exact ids_lt (x := .agg cs) (.one (.agg h5)) i hi
  have hbel : Below w.heap.size w { w with drawn := w.drawn + 1 } := { os := rfl, tape := rfl, output := rfl, size := Nat.le_refl _, block := fun _ _ => rfl }
  have hs' := (hs.bump ops.size).grow hbel
  have hno : ∀ i, (Array.replicate ops.size false).getD i false = false := by
    intro i
    simp only [Array.getD_eq_getD_getElem?, Array.getElem?_replicate]
    split <;> rfl
  have hrun : runE (fun i => (Array.replicate ops.size false).getD i false) t 0 (s.bump ops.size) = s.bump ops.size := by
    rw [show (fun i => (Array.replicate ops.size false).getD i false) = fun _ => false from funext hno, runE_none]
  have hst : St C (runE (fun i => (Array.replicate ops.size false).getD i false) t 0 (s.bump ops.size)) a { w with drawn := w.drawn + 1 } := by
    rw [hrun]
    exact ⟨_, σ, hs'⟩
  have hcl : Closed ops (fun i => (Array.replicate ops.size false).getD i false) := by
    intro k o hk
    exact absurd ((hno k).symm.trans hk) (by simp)
  exact draw_main (C := C) hT hl (fun a' w' hst => hQ a' w' _ h3 hst) ops.size _ (List.range ops.size) a _ (by simp) List.nodup_range (fun i hi _ => List.mem_range.2 hi) (by simp) hcl hst

end
end Go.Proofs.Ytijjagkeaehhbaa.Eng
