/- The engine: whatever order is drawn, it comes to the same. -/
import Derived.Test.YtijjagkeaehhbaaEngO
set_option linter.unusedSimpArgs false
set_option linter.unusedVariables false
namespace Go.Proofs.Ytijjagkeaehhbaa.Eng
open Go.RowKit (Below)

section
variable {p q : Nat → Bool}

theorem eff_fr {s : AS} {d : Option Nat} {v : AV} {u : Option (Nat × AObj)} {i : Nat} : (s.eff d v u).fr i = bif hits d i then v else s.fr i := rfl
theorem hits_iff {d : Option Nat} {i : Nat} : hits d i = true ↔ d = some i := by
  cases d with
  | none => simp [hits]
  | some k => simp only [hits, Option.some.injEq]; exact ⟨fun h => (Nat.eq_of_beq_eq_true h).symm, fun h => by subst h; exact Nat.beq_refl _⟩
theorem eff_fr_ne {s : AS} {d : Option Nat} {v : AV} {u : Option (Nat × AObj)} {i : Nat} (h : d ≠ some i) : (s.eff d v u).fr i = s.fr i := by
  rw [eff_fr, show hits d i = false from by rw [Bool.eq_false_iff]; exact fun e => h (hits_iff.1 e)]; rfl
theorem eff_fr_eq {s : AS} {v : AV} {u : Option (Nat × AObj)} {i : Nat} : (s.eff (some i) v u).fr i = v := by
  rw [eff_fr, hits_iff.2 rfl]; rfl
theorem eff_hp_ne {s : AS} {d : Option Nat} {v : AV} {u : Option (Nat × AObj)} {i : Nat} (h : ∀ j o, u = some (j, o) → j ≠ i) : (s.eff d v u).hp i = s.hp i := by
  unfold AS.eff
  cases u with
  | none => rfl
  | some x =>
    obtain ⟨j, o⟩ := x
    have : Nat.beq i j = false := beq_ne fun e => h j o rfl e.symm
    simp only [this, cond_false]
theorem eff_hp_eq {s : AS} {d : Option Nat} {v : AV} {i : Nat} {o : AObj} : (s.eff d v (some (i, o))).hp i = some o := by
  simp only [AS.eff, Nat.beq_refl, cond_true]

theorem runE_fr {d : Nat} : ∀ (l : List Ef) (k : Nat) (s s' : AS), s.fr d = s'.fr d → (∀ i e, l[i]? = some e → e.d = some d → p (k + i) = q (k + i)) → (runE p l k s).fr d = (runE q l k s').fr d
  | [], _, _, _, h, _ => h
  | e :: r, k, s, s', h, hw => by
    simp only [runE]
    refine runE_fr r (k + 1) _ _ ?_ fun i e' hi he => by have := hw (i + 1) e' (by simpa using hi) he; rwa [Nat.add_assoc, Nat.add_comm 1]
    by_cases hd : e.d = some d
    · have := hw 0 e rfl hd
      simp only [Nat.add_zero] at this
      rw [this]
      cases q k
      · exact h
      · simp only [cond_true, hd, eff_fr_eq]
    · have key : ∀ (b : Bool) (t : AS), (bif b then t.eff e.d e.v e.u else t).fr d = t.fr d := fun b t => by cases b; rfl; exact eff_fr_ne hd
      rw [key, key, h]

theorem runE_hp {id : Nat} : ∀ (l : List Ef) (k : Nat) (s s' : AS), s.hp id = s'.hp id → (∀ i e o, l[i]? = some e → e.u = some (id, o) → p (k + i) = q (k + i)) → (runE p l k s).hp id = (runE q l k s').hp id
  | [], _, _, _, h, _ => h
  | e :: r, k, s, s', h, hw => by
    simp only [runE]
    refine runE_hp r (k + 1) _ _ ?_ fun i e' o hi he => by have := hw (i + 1) e' o (by simpa using hi) he; rwa [Nat.add_assoc, Nat.add_comm 1]
    by_cases hd : ∃ o, e.u = some (id, o)
    · obtain ⟨o, hd⟩ := hd
      have := hw 0 e o rfl hd
      simp only [Nat.add_zero] at this
      rw [this]
      cases q k
      · exact h
      · simp only [cond_true, hd, eff_hp_eq]
    · have key : ∀ (b : Bool) (t : AS), (bif b then t.eff e.d e.v e.u else t).hp id = t.hp id := fun b t => by cases b; rfl; exact eff_hp_ne fun j o hj e' => hd ⟨o, by rw [hj, e']⟩
      rw [key, key, h]

theorem runE_rest (l : List Ef) (k : Nat) (s : AS) : (runE p l k s).n = s.n ∧ (runE p l k s).nx = s.nx ∧ (runE p l k s).n0 = s.n0 ∧ (runE p l k s).c0 = s.c0 := by
  induction l generalizing k s with
  | nil => exact ⟨rfl, rfl, rfl, rfl⟩
  | cons e r ih =>
    simp only [runE]
    obtain ⟨h1, h2, h3, h4⟩ := ih (k + 1) (bif p k then s.eff e.d e.v e.u else s)
    have : (bif p k then s.eff e.d e.v e.u else s).n = s.n ∧ (bif p k then s.eff e.d e.v e.u else s).nx = s.nx ∧ (bif p k then s.eff e.d e.v e.u else s).n0 = s.n0 ∧ (bif p k then s.eff e.d e.v e.u else s).c0 = s.c0 := by
      cases p k <;> exact ⟨rfl, rfl, rfl, rfl⟩
    exact ⟨h1.trans this.1, h2.trans this.2.1, h3.trans this.2.2.1, h4.trans this.2.2.2⟩

theorem runE_fr_from (d : Nat) : ∀ (l : List Ef) (k : Nat) (s : AS), (runE p l k s).fr d = s.fr d ∨ ∃ i e, l[i]? = some e ∧ p (k + i) = true ∧ e.d = some d ∧ (runE p l k s).fr d = e.v
  | [], _, _ => .inl rfl
  | e :: r, k, s => by
    simp only [runE]
    rcases runE_fr_from d r (k + 1) (bif p k then s.eff e.d e.v e.u else s) with h | ⟨i, e', h1, h2, h3, h4⟩
    · cases hp : p k with
      | false => rw [hp] at h; exact .inl h
      | true =>
        rw [hp] at h
        simp only [cond_true] at h ⊢
        by_cases hd : e.d = some d
        · rw [hd, eff_fr_eq] at h
          exact .inr ⟨0, e, rfl, by rw [Nat.add_zero]; exact hp, hd, by rw [hd]; exact h⟩
        · rw [eff_fr_ne hd] at h; exact .inl h
    · exact .inr ⟨i + 1, e', by simpa using h1, by rw [← h2]; congr 1; omega, h3, h4⟩

theorem runE_hp_from (id : Nat) : ∀ (l : List Ef) (k : Nat) (s : AS), (runE p l k s).hp id = s.hp id ∨ ∃ i e o, l[i]? = some e ∧ p (k + i) = true ∧ e.u = some (id, o) ∧ (runE p l k s).hp id = some o
  | [], _, _ => .inl rfl
  | e :: r, k, s => by
    simp only [runE]
    rcases runE_hp_from id r (k + 1) (bif p k then s.eff e.d e.v e.u else s) with h | ⟨i, e', o, h1, h2, h3, h4⟩
    · cases hp : p k with
      | false => rw [hp] at h; exact .inl h
      | true =>
        rw [hp] at h
        simp only [cond_true] at h ⊢
        by_cases hd : ∃ o, e.u = some (id, o)
        · obtain ⟨o, hd⟩ := hd
          rw [hd, eff_hp_eq] at h
          exact .inr ⟨0, e, o, rfl, by rw [Nat.add_zero]; exact hp, hd, by rw [hd]; exact h⟩
        · rw [eff_hp_ne (fun j o hj e' => hd ⟨o, by rw [hj, e']⟩)] at h; exact .inl h
    · exact .inr ⟨i + 1, e', o, by simpa using h1, by rw [← h2]; congr 1; omega, h3, h4⟩

/-- The last one that wrote a slot. -/
theorem runE_last_fr {d : Nat} : ∀ (l : List Ef) (k : Nat) (s : AS) (i : Nat) (e : Ef), l[i]? = some e → e.d = some d → p (k + i) = true → (∀ j e', i < j → l[j]? = some e' → e'.d = some d → p (k + j) = false) → (runE p l k s).fr d = e.v
  | [], _, _, i, e, h, _, _, _ => by simp at h
  | e0 :: r, k, s, 0, e, h, hd, hp, hl => by
    simp only [List.getElem?_cons_zero, Option.some.injEq] at h
    subst h
    simp only [Nat.add_zero] at hp
    simp only [runE, hp, cond_true]
    rw [runE_fr (q := fun _ => false) (s' := s.eff e0.d e0.v e0.u) r (k + 1) _ rfl fun j e' hj he => by have := hl (j + 1) e' (by omega) (by simpa using hj) he; rwa [Nat.add_assoc, Nat.add_comm 1], runE_none, hd, eff_fr_eq]
  | e0 :: r, k, s, i + 1, e, h, hd, hp, hl => by
    simp only [runE]
    exact runE_last_fr r (k + 1) _ i e (by simpa using h) hd (by rw [← hp]; congr 1; omega) fun j e' hij hj he => by have := hl (j + 1) e' (by omega) (by simpa using hj) he; rwa [Nat.add_assoc, Nat.add_comm 1]
theorem runE_last_hp {id : Nat} {ob : AObj} : ∀ (l : List Ef) (k : Nat) (s : AS) (i : Nat) (e : Ef), l[i]? = some e → e.u = some (id, ob) → p (k + i) = true → (∀ j e' o, i < j → l[j]? = some e' → e'.u = some (id, o) → p (k + j) = false) → (runE p l k s).hp id = some ob
  | [], _, _, i, e, h, _, _, _ => by simp at h
  | e0 :: r, k, s, 0, e, h, hd, hp, hl => by
    simp only [List.getElem?_cons_zero, Option.some.injEq] at h
    subst h
    simp only [Nat.add_zero] at hp
    simp only [runE, hp, cond_true]
    rw [runE_hp (q := fun _ => false) (s' := s.eff e0.d e0.v e0.u) r (k + 1) _ rfl fun j e' o hj he => by have := hl (j + 1) e' o (by omega) (by simpa using hj) he; rwa [Nat.add_assoc, Nat.add_comm 1], runE_none, hd, eff_hp_eq]
  | e0 :: r, k, s, i + 1, e, h, hd, hp, hl => by
    simp only [runE]
    exact runE_last_hp r (k + 1) _ i e (by simpa using h) hd (by rw [← hp]; congr 1; omega) fun j e' o hij hj he => by have := hl (j + 1) e' o (by omega) (by simpa using hj) he; rwa [Nat.add_assoc, Nat.add_comm 1]

end

/-- Listed ones bear all that stands before them. -/
def Closed (ops : Array Oper) (L : Nat → Bool) : Prop := ∀ (k : Nat) (o : Oper), L k = true → ops[k]? = some o → ∀ e ∈ o.after, Region.binds .any e = true → L e.on = true
def Ready (ops : Array Oper) (L : Nat → Bool) (k : Nat) : Prop := ∀ (o : Oper), ops[k]? = some o → ∀ e ∈ o.after, Region.binds .any e = true → L e.on = true
def Bef (ops : Array Oper) (i k : Nat) : Prop := ∀ L, Closed ops L → Ready ops L k → L i = true

theorem ancL_spec {ops : Array Oper} : ∀ (rest : List Oper) (acc : List Nat), (∀ i, rest[i]? = ops[acc.length + i]?) → (∀ k m, acc[k]? = some m → ∀ i, Nat.testBit m i = true → Bef ops i k) →
    ∀ k m, (ancL rest acc)[k]? = some m → ∀ i, Nat.testBit m i = true → Bef ops i k
  | [], acc, _, h => h
  | o :: r, acc, hr, h => by
    simp only [ancL]
    refine ancL_spec r _ (fun i => by have := hr (i + 1); simp only [List.getElem?_cons_succ] at this; rw [this, List.length_append]; congr 1; simp; omega) fun k m hk i hi => ?_
    rw [List.getElem?_append] at hk
    split at hk
    · exact h k m hk i hi
    · rename_i hlt
      have hk0 : k = acc.length := by
        rcases Nat.lt_or_ge (k - acc.length) 1 with h1 | h1
        · omega
        · rw [List.getElem?_eq_none (by simpa using h1)] at hk; cases hk
      subst hk0
      simp only [Nat.sub_self, List.getElem?_cons_zero, Option.some.injEq] at hk
      subst hk
      have ho : ops[acc.length]? = some o := by have := hr 0; simpa using this.symm
      intro L hc hrd
      have hp := hrd o ho
      have key : ∀ es : List Edge, (∀ e ∈ es, Region.binds .any e = true → L e.on = true) → Nat.testBit (maskOf es acc) i = true → L i = true := by
        intro es
        induction es with
        | nil => intro _ hb; simp [maskOf] at hb
        | cons e es ih =>
          intro hes hb
          simp only [maskOf] at hb
          split at hb
          · rename_i m hbind hm
            rw [Nat.testBit_or, Nat.testBit_or] at hb
            rcases Bool.or_eq_true_iff.1 hb with hb | hb
            · exact ih (fun e' he' => hes e' (List.mem_cons_of_mem _ he')) hb
            · have hLe := hes e (List.mem_cons_self) hbind
              rcases Bool.or_eq_true_iff.1 hb with hb | hb
              · rw [Nat.testBit_two_pow] at hb
                have := of_decide_eq_true hb
                subst this
                exact hLe
              · exact h e.on m hm i hb L hc fun o' ho' => hc e.on o' hLe ho'
          · exact ih (fun e' he' => hes e' (List.mem_cons_of_mem _ he')) hb
      exact key o.after.toList (fun e he => hp e (Array.mem_toList_iff.1 he)) hi

theorem edgesOk_spec : ∀ (l : List Oper) (k : Nat), edgesOk l k = true → ∀ (i : Nat) (o : Oper), l[i]? = some o → ∀ e ∈ o.after, Region.binds .any e = true → e.on < k + i
  | [], _, _, i, o, h, _, _, _ => by simp at h
  | o0 :: r, k, h, i, o, hi, e, he, hb => by
    simp only [edgesOk, Bool.and_eq_true, List.all_eq_true] at h
    match i with
    | 0 =>
      simp only [List.getElem?_cons_zero, Option.some.injEq] at hi
      subst hi
      have := h.1 e (Array.mem_toList_iff.2 he)
      simp only [hb, Bool.not_true, Bool.false_or] at this
      rw [Nat.blt_eq] at this
      exact this
    | i + 1 =>
      have := edgesOk_spec r (k + 1) h.2 i o (by simpa using hi) e he hb
      omega

theorem okRow_spec {base k : Nat} {e : Ef} {m : Nat} : ∀ (r : List Ef) (rm : List Nat) (j : Nat), okRow base k e m r rm j = true → ∀ (i : Nat) (e' : Ef), r[i]? = some e' →
    base + (j + i) ∉ e.ids ∧ ((confl e e' = true ∨ base + k ∈ e'.ids) → ∃ m', rm[i]? = some m' ∧ Nat.testBit m' k = true)
  | [], _, _, _, i, e', h => by simp at h
  | e0 :: r, [], j, h, i, e', hi => by simp [okRow] at h
  | e0 :: r, m' :: rm, j, h, i, e', hi => by
    simp only [okRow, Bool.and_eq_true, Bool.or_eq_true, Bool.not_eq_true'] at h
    obtain ⟨⟨h1, h2⟩, h3⟩ := h
    match i with
    | 0 =>
      simp only [List.getElem?_cons_zero, Option.some.injEq] at hi
      subst hi
      refine ⟨(fun hm => by rw [Nat.add_zero] at hm; rw [memb_iff.2 hm] at h2; cases h2), fun hc => ⟨m', rfl, ?_⟩⟩
      rcases h1 with h1 | h1
      · rw [Bool.or_eq_false_iff] at h1
        rcases hc with hc | hc
        · rw [h1.1] at hc; cases hc
        · have := h1.2; rw [memb_iff.2 hc] at this; cases this
      · exact h1
    | i + 1 =>
      have := okRow_spec r rm (j + 1) h3 i e' (by simpa using hi)
      rw [show j + (i + 1) = j + 1 + i from by omega]
      simpa using this
theorem okAll_spec {base : Nat} : ∀ (τ : List Ef) (ms : List Nat) (k : Nat), okAll base τ ms k = true → ∀ (i j : Nat) (e e' : Ef), i < j → τ[i]? = some e → τ[j]? = some e' →
    base + (k + j) ∉ e.ids ∧ ((confl e e' = true ∨ base + (k + i) ∈ e'.ids) → ∃ m, ms[j]? = some m ∧ Nat.testBit m (k + i) = true)
  | [], _, _, _, i, j, e, e', _, h, _ => by simp at h
  | e0 :: r, [], k, h, _, _, _, _, _, _, _ => by simp [okAll] at h
  | e0 :: r, m :: rm, k, h, i, j, e, e', hij, hi, hj => by
    simp only [okAll, Bool.and_eq_true] at h
    obtain ⟨j, rfl⟩ : ∃ j', j = j' + 1 := ⟨j - 1, by omega⟩
    match i with
    | 0 =>
      simp only [List.getElem?_cons_zero, Option.some.injEq] at hi
      subst hi
      obtain ⟨h1, h2⟩ := okRow_spec r rm (k + 1) h.1 j e' (by simpa using hj)
      rw [show k + (j + 1) = k + 1 + j from by omega, Nat.add_zero]
      exact ⟨h1, fun hc => by simpa using h2 hc⟩
    | i + 1 =>
      obtain ⟨h1, h2⟩ := okAll_spec r rm (k + 1) h.2 i j e e' (by omega) (by simpa using hi) (by simpa using hj)
      rw [show k + (j + 1) = k + 1 + j from by omega, show k + (i + 1) = k + 1 + i from by omega]
      exact ⟨h1, fun hc => by simpa using h2 hc⟩

end Go.Proofs.Ytijjagkeaehhbaa.Eng
