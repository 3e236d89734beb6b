/- The engine: a call told in its own names, at whatever names. -/
import Derived.Test.YtijjagkeaehhbaaEngU
set_option linter.unusedSimpArgs false
set_option linter.unusedVariables false
namespace Go.Proofs.Ytijjagkeaehhbaa.Eng
open Go.RowKit (Below)

def nodupB : List Nat → Bool
  | [] => true
  | a :: r => !(memb a r) && nodupB r
def aobjIds : AObj → List Nat
  | .box _ cs => lids cs
  | .row _ _ _ => []
def oidsB (m : Nat) : List AObj → Bool
  | [] => true
  | o :: r => belowAll m (aobjIds o) && oidsB m r
def argsB (m : Nat) : List AV → Bool
  | [] => true
  | x :: r => belowAll m x.ids && argsB m r
/-- The objects lie in the state under the names. -/
def lieAt (s : AS) (ρ : List Nat) : List Nat → List AObj → Prop
  | a :: r, o :: os => s.hp a = some (o.ren ρ) ∧ lieAt s ρ r os
  | [], [] => True
  | _, _ => False
/-- Handles that turn may turn. -/
def mayTurn (s : AS) : List Nat → Bool
  | [] => true
  | i :: r => (Nat.ble s.n0 i || s.c0 i) && mayTurn s r

theorem nodupB_spec : ∀ {ρ : List Nat}, nodupB ρ = true → ρ.Nodup
  | [], _ => List.nodup_nil
  | a :: r, h => by
    simp only [nodupB, Bool.and_eq_true, Bool.not_eq_true'] at h
    refine List.nodup_cons.2 ⟨fun hm => ?_, nodupB_spec h.2⟩
    rw [memb_iff.2 hm] at h
    cases h.1
theorem rn_get {ρ : List Nat} {i j : Nat} (h : ρ[i]? = some j) : rn ρ i = j := by unfold rn; rw [h]
theorem rn_inj {ρ : List Nat} (hn : ρ.Nodup) {i j : Nat} (hi : i < ρ.length) (hj : j < ρ.length) (h : rn ρ i = rn ρ j) : i = j := by
  rw [rn_get (List.getElem?_eq_getElem hi), rn_get (List.getElem?_eq_getElem hj)] at h
  rcases Nat.lt_trichotomy i j with h1 | h1 | h1
  · exact absurd h (List.pairwise_iff_getElem.1 hn i j hi hj h1)
  · exact h1
  · exact absurd h.symm (List.pairwise_iff_getElem.1 hn j i hj hi h1)

theorem lieAt_spec {s : AS} {ρ : List Nat} : ∀ (l : List Nat) (os : List AObj), lieAt s ρ l os → l.length = os.length ∧ ∀ (i : Nat) a o, l[i]? = some a → os[i]? = some o → s.hp a = some (o.ren ρ)
  | [], [], _ => ⟨rfl, by simp⟩
  | a :: r, o :: os, h => by
    obtain ⟨h1, h2⟩ := lieAt_spec r os h.2
    refine ⟨by simp [h1], fun i b q hb hq => ?_⟩
    match i with
    | 0 => simp only [List.getElem?_cons_zero, Option.some.injEq] at hb hq; subst hb hq; exact h.1
    | i + 1 => exact h2 i b q (by simpa using hb) (by simpa using hq)
  | [], _ :: _, h => h.elim
  | _ :: _, [], h => h.elim
theorem oidsB_spec {m : Nat} : ∀ {os : List AObj}, oidsB m os = true → ∀ (i : Nat) o, os[i]? = some o → ∀ k ∈ aobjIds o, k < m
  | [], _, i, o, h => by simp at h
  | q :: os, h, i, o, hi => by
    simp only [oidsB, Bool.and_eq_true] at h
    match i with
    | 0 => simp only [List.getElem?_cons_zero, Option.some.injEq] at hi; subst hi; exact belowAll_iff.1 h.1
    | i + 1 => exact oidsB_spec h.2 i o (by simpa using hi)
theorem argsB_spec {m : Nat} : ∀ {os : List AV}, argsB m os = true → ∀ (i : Nat) o, os[i]? = some o → ∀ k ∈ o.ids, k < m
  | [], _, i, o, h => by simp at h
  | q :: os, h, i, o, hi => by
    simp only [argsB, Bool.and_eq_true] at h
    match i with
    | 0 => simp only [List.getElem?_cons_zero, Option.some.injEq] at hi; subst hi; exact belowAll_iff.1 h.1
    | i + 1 => exact argsB_spec h.2 i o (by simpa using hi)
theorem mayTurn_spec {s : AS} : ∀ {l : List Nat}, mayTurn s l = true → ∀ i ∈ l, s.n0 ≤ i ∨ s.c0 i = true
  | [], _, i, h => by cases h
  | a :: r, h, i, hi => by
    simp only [mayTurn, Bool.and_eq_true, Bool.or_eq_true] at h
    rcases List.mem_cons.1 hi with rfl | hi
    · exact h.1.imp Nat.le_of_ble_eq_true id
    · exact mayTurn_spec h.2 i hi
theorem mem_chg {ρ : List Nat} {ch : Nat → Bool} : ∀ {l : List Nat} {k : Nat}, k ∈ chg ρ ch l ↔ ∃ i ∈ l, ch i = true ∧ rn ρ i = k
  | [], k => by simp [chg]
  | i :: r, k => by
    simp only [chg]
    cases hc : ch i with
    | true => simp only [cond_true, List.mem_cons, mem_chg (l := r)]; constructor
              · rintro (rfl | ⟨j, h1, h2⟩)
                · exact ⟨i, .inl rfl, hc, rfl⟩
                · exact ⟨j, .inr h1, h2⟩
              · rintro ⟨j, rfl | h1, h2, h3⟩
                · exact .inl h3.symm
                · exact .inr ⟨j, h1, h2, h3⟩
    | false => simp only [cond_false, List.mem_cons, mem_chg (l := r)]; constructor
               · rintro ⟨j, h1, h2⟩; exact ⟨j, .inr h1, h2⟩
               · rintro ⟨j, rfl | h1, h2, h3⟩
                 · rw [hc] at h2; cases h2
                 · exact ⟨j, h1, h2, h3⟩
theorem setAll_spec {hp : Nat → Option AObj} : ∀ (ρ : List Nat) (os : List AObj), ρ.length = os.length → ρ.Nodup → (∀ (i : Nat) a o, ρ[i]? = some a → os[i]? = some o → setAll ρ os hp a = some o) ∧ ∀ j, j ∉ ρ → setAll ρ os hp j = hp j
  | [], [], _, _ => ⟨by simp, fun j _ => rfl⟩
  | a :: r, o :: os, hl, hn => by
    obtain ⟨h1, h2⟩ := setAll_spec (hp := hp) r os (by simpa using hl) (List.nodup_cons.1 hn).2
    refine ⟨fun i b q hb hq => ?_, fun j hj => ?_⟩
    · match i with
      | 0 => simp only [List.getElem?_cons_zero, Option.some.injEq] at hb hq; subst hb hq; simp only [setAll, Nat.beq_refl, cond_true]
      | i + 1 =>
        have hne : b ≠ a := fun e => by subst e; exact (List.nodup_cons.1 hn).1 (List.mem_of_getElem? (by simpa using hb))
        simp only [setAll, beq_ne hne, cond_false]
        exact h1 i b q (by simpa using hb) (by simpa using hq)
    · have hne : j ≠ a := fun e => hj (by subst e; simp)
      simp only [setAll, beq_ne hne, cond_false]
      exact h2 j fun h => hj (List.mem_cons_of_mem _ h)
  | [], _ :: _, h, _ => by simp at h
  | _ :: _, [], h, _ => by simp at h

section
variable {P : Program} {T : Tab} {C : Ctx} {s : AS} {S S' : Nat → Prop} {σ : Nat → Value} {a : Act} {w : World} {m : Nat}

theorem callR_of_frame {g : Nat} {args : List AV} {objs : List AObj} {ch : Nat → Bool} {Q : AV → List AObj → Prop} (h : CallF P g args objs ch Q) (ρ : List Nat) {s : AS} {R : AV → AS → Prop} {args' : List AV} (ha : args' = args.map (AV.ren ρ))
    (hnd : nodupB ρ = true) (hob : lieAt s ρ ρ objs) (hok : (oidsB ρ.length objs && argsB ρ.length args && mayTurn s (chg ρ ch (List.range ρ.length))) = true)
    (hR : ∀ r objs', Q r objs' → R (r.ren ρ) (s.after ρ ch objs')) : CallR P g args' s R := by
  subst ha
  refine ⟨h.1, fun C S σ a w hs vs hn hv => ?_⟩
  simp only [Bool.and_eq_true] at hok
  obtain ⟨⟨hoid, harg⟩, hturn⟩ := hok
  have hnd := nodupB_spec hnd
  obtain ⟨hlen, hat⟩ := lieAt_spec ρ objs hob
  have m_def : objs.length = ρ.length := hlen.symm
  -- where the i-th lies
  have at_ : ∀ i o, objs[i]? = some o → s.hp (rn ρ i) = some (o.ren ρ) := fun i o ho => by
    have hi : i < ρ.length := by rw [hlen]; exact (List.getElem?_eq_some_iff.1 ho).1
    rw [rn_get (List.getElem?_eq_getElem hi)]
    exact hat i _ o (List.getElem?_eq_getElem hi) ho
  have inj_ : ∀ i j, i < objs.length → j < objs.length → rn ρ i = rn ρ j → i = j := fun i j hi hj e => rn_inj hnd (by omega) (by omega) e
  have some_ : ∀ i, i < objs.length → ∃ o, objs[i]? = some o := fun i hi => ⟨_, List.getElem?_eq_getElem hi⟩
  have ltnx : ∀ i, i < objs.length → rn ρ i < s.nx := fun i hi => let ⟨o, ho⟩ := some_ i hi; hs.hp.lt _ _ (at_ i o ho)
  have hH : HR (Bof (fun i => σ (rn ρ i)) objs.length) w S (fun i => σ (rn ρ i)) objs.length (hpOf objs) := by
    refine ⟨fun i o ho => (List.getElem?_eq_some_iff.1 ho).1, fun i o ho => ?_, fun i o b ho hb => hs.hp.notS _ _ b (at_ i o ho) hb, fun i o b ho hb => ⟨i, (List.getElem?_eq_some_iff.1 ho).1, hb⟩,
      fun i i' o o' b ho ho' hb hb' => inj_ i i' (List.getElem?_eq_some_iff.1 ho).1 (List.getElem?_eq_some_iff.1 ho').1 (hs.hp.inj _ _ _ _ b (at_ i o ho) (at_ i' o' ho') hb hb')⟩
    have hobj := hs.hp.obj _ _ (at_ i o ho)
    have hids := oidsB_spec hoid i o ho
    cases o with
    | box t cs =>
      obtain ⟨b, vs, h1, h2, h3⟩ := hobj
      exact ⟨b, vs, h1, h2, h3.unren (fun _ _ => rfl) (fun k hk => by rw [m_def]; exact hids k hk)⟩
    | row t sz rows => exact hobj
  have hargs : ∀ (i : Nat) (x : AV), args[i]? = some x → ∃ v, vs[i]? = some v ∧ AVR w S (fun i => σ (rn ρ i)) objs.length x v := by
    intro i x hx
    obtain ⟨v, h1, h2⟩ := hv i (x.ren ρ) (by rw [List.getElem?_map, hx]; rfl)
    exact ⟨v, h1, h2.unren (fun _ _ => rfl) fun k hk => by rw [m_def]; exact argsB_spec harg i x hx k hk⟩
  refine (h.2 w S _ hs.lt hH vs (by simpa using hn) hargs).mono ?_
  rintro e w' ⟨v, r, objs', S', σ', hQ, rfl, hl', hkeep, hSS, hSn, hSlt, hH', hσ', hr⟩
  classical
  let σ2 : Nat → Value := fun id => if h : ∃ i, i < objs.length ∧ rn ρ i = id then σ' (Classical.choose h) else σ id
  have σ2_in : ∀ i, i < objs.length → σ2 (rn ρ i) = σ' i := by
    intro i hi
    have hex : ∃ j, j < objs.length ∧ rn ρ j = rn ρ i := ⟨i, hi, rfl⟩
    show (if h : ∃ j, j < objs.length ∧ rn ρ j = rn ρ i then σ' (Classical.choose h) else σ (rn ρ i)) = σ' i
    rw [dif_pos hex]
    obtain ⟨h1, h2⟩ := Classical.choose_spec hex
    rw [inj_ _ _ h1 hi h2]
  have σ2_out : ∀ id, (∀ i, i < objs.length → rn ρ i ≠ id) → σ2 id = σ id := by
    intro id hno
    show (if h : ∃ j, j < objs.length ∧ rn ρ j = id then σ' (Classical.choose h) else σ id) = σ id
    rw [dif_neg]
    rintro ⟨i, h1, h2⟩
    exact hno i h1 h2
  have mem_out : ∀ id, id ∉ ρ → ∀ i, i < objs.length → rn ρ i ≠ id := by
    intro id hid i hi e
    refine hid ?_
    rw [← e, rn_get (List.getElem?_eq_getElem (show i < ρ.length by omega))]
    exact List.getElem_mem _
  have in_mem : ∀ id, id ∈ ρ → ∃ i, i < objs.length ∧ rn ρ i = id ∧ ρ[i]? = some id := by
    intro id hid
    obtain ⟨i, hi, he⟩ := List.getElem_of_mem hid
    have : ρ[i]? = some id := by rw [List.getElem?_eq_getElem hi, he]
    exact ⟨i, by omega, rn_get this, this⟩
  have hwipe : ∀ id, id < s.nx → id ∉ chg ρ ch (List.range ρ.length) → id < s.nx ∧ σ2 id = σ id := by
    intro id h1 h2
    refine ⟨h1, ?_⟩
    by_cases hid : id ∈ ρ
    · obtain ⟨i, hi, he, hg⟩ := in_mem id hid
      subst he
      rw [σ2_in i hi]
      refine hσ' i hi ?_
      cases hc : ch i with
      | false => rfl
      | true => exact absurd (mem_chg.2 ⟨i, List.mem_range.2 (by omega), hc, rfl⟩) h2
    · exact σ2_out id (mem_out id hid)
  have notB : ∀ b, S b → ¬ Bof (fun i => σ (rn ρ i)) objs.length b := by
    rintro b hb ⟨i, hi, hbk⟩
    obtain ⟨o, ho⟩ := some_ i hi
    exact hs.hp.notS _ _ b (at_ i o ho) hbk hb
  have hkS : ∀ b, S b → w'.heap[b]? = w.heap[b]? := fun b hb => hkeep.block b (hs.lt b hb) (notB b hb)
  -- an object that was not handed in
  have other : ∀ id o b, id ∉ ρ → s.hp id = some o → blk (σ id) = some b → ¬ Bof (fun i => σ (rn ρ i)) objs.length b := by
    rintro id o b hid ho hb ⟨i, hi, hbk⟩
    obtain ⟨q, hq⟩ := some_ i hi
    exact mem_out id hid i hi (hs.hp.inj _ _ _ _ b (at_ i q hq) ho hbk hb)
  obtain ⟨hset1, hset2⟩ := setAll_spec (hp := fun j => (s.hp j).map (AObj.wipe (chg ρ ch (List.range ρ.length)))) ρ (objs'.map (AObj.ren ρ)) (by simp; omega) hnd
  have get : ∀ id o, (s.after ρ ch objs').hp id = some o → (∃ i o', i < objs.length ∧ rn ρ i = id ∧ objs'[i]? = some o' ∧ o = o'.ren ρ) ∨ (id ∉ ρ ∧ ∃ o', s.hp id = some o' ∧ o = o'.wipe (chg ρ ch (List.range ρ.length))) := by
    intro id o ho
    simp only [AS.after] at ho
    by_cases hid : id ∈ ρ
    · obtain ⟨i, hi, he, hg⟩ := in_mem id hid
      have hi' : i < objs'.length := by omega
      have := hset1 i id _ hg (by rw [List.getElem?_map, List.getElem?_eq_getElem hi']; rfl)
      rw [this] at ho
      simp only [Option.some.injEq] at ho
      exact .inl ⟨i, _, hi, he, List.getElem?_eq_getElem hi', ho.symm⟩
    · rw [hset2 id hid] at ho
      obtain ⟨o', h1, h2⟩ := Option.map_eq_some_iff.1 ho
      exact .inr ⟨hid, o', h1, h2.symm⟩
  have hren : ∀ i, i < objs.length → rn ρ i < s.nx ∧ σ2 (rn ρ i) = σ' i := fun i hi => ⟨ltnx i hi, σ2_in i hi⟩
  refine ⟨v, r.ren ρ, s.after ρ ch objs', S', σ2, hR r objs' hQ, rfl, hr.ren hren, ⟨hs.size, hs.defers, fun i => (hs.fr i).wipe hkS hSS hwipe, ⟨?_, ?_, ?_, ?_, ?_⟩, hSlt, fun b hb => hSS b (hs.le b hb), ?_, hs.nx, ?_, ?_⟩⟩
  · intro id o ho
    rcases get id o ho with ⟨i, o', hi, he, _⟩ | ⟨_, o', h1, _⟩
    · exact he ▸ ltnx i hi
    · exact hs.hp.lt id o' h1
  · intro id o ho
    rcases get id o ho with ⟨i, o', hi, he, ho', rfl⟩ | ⟨hid, o', h1, rfl⟩
    · have := hH'.obj i o' ho'
      subst he
      cases o' with
      | box t cs =>
        obtain ⟨b, vs, h2, h3, h4⟩ := this
        exact ⟨b, vs, (σ2_in i hi).trans h2, h3, h4.ren hren⟩
      | row t sz rows =>
        obtain ⟨h0, xs, h2, h3, h4⟩ := this
        exact ⟨h0, xs, by rw [σ2_in i hi]; exact h2, h3, h4⟩
    · have hobj := hs.hp.obj id o' h1
      have hσid : σ2 id = σ id := σ2_out id (mem_out id hid)
      have hblk : ∀ b, blk (σ id) = some b → w'.heap[b]? = w.heap[b]? := fun b hb => hkeep.block b (blk_lt hobj hb) (other id o' b hid h1 hb)
      cases o' with
      | box t cs =>
        obtain ⟨b, vs, h2, h3, h4⟩ := hobj
        refine ⟨b, vs, hσid.trans h2, (hblk b (by rw [h2]; rfl)).trans h3, by simpa using h4.1, fun i x hx => ?_⟩
        rw [List.getElem?_map] at hx
        obtain ⟨y, h5, rfl⟩ := Option.map_eq_some_iff.1 hx
        obtain ⟨u, h6, h7⟩ := h4.2 i y h5
        exact ⟨u, h6, h7.wipe hkS hSS hwipe⟩
      | row t sz rows =>
        obtain ⟨h0, xs, h2, h3, h4⟩ := hobj
        refine ⟨h0, xs, ?_, h3, fun i j r p hr hp => let ⟨u, hu, hh⟩ := h4 i j r p hr hp; ⟨u, hu, hh.mono hkS hSS⟩⟩
        rw [hσid]
        refine ⟨h2.1, ?_⟩
        rcases h2.2 with h6 | ⟨g, cap, cur, hv', hg, hh, r⟩
        · exact .inl h6
        · exact .inr ⟨g, cap, cur, hv', hg, (hblk g (by rw [hv']; rfl)).trans hh, r⟩
  · intro id o b ho hb
    rcases get id o ho with ⟨i, o', hi, he, ho', rfl⟩ | ⟨hid, o', h1, rfl⟩
    · subst he
      rw [σ2_in i hi] at hb
      exact hH'.notS i o' b ho' hb
    · rw [σ2_out id (mem_out id hid)] at hb
      intro hS'
      rcases hSn b hS' with h2 | h2 | h2
      · exact hs.hp.notS id o' b h1 hb h2
      · have := blk_lt (hs.hp.obj id o' h1) hb; omega
      · exact other id o' b hid h1 hb h2
  · intro id o b ho hb
    rcases get id o ho with ⟨i, o', hi, he, ho', rfl⟩ | ⟨hid, o', h1, rfl⟩
    · subst he
      rw [σ2_in i hi] at hb
      rcases hH'.own i o' b ho' hb with ⟨j, hj, h2⟩ | h2
      · obtain ⟨q, hq⟩ := some_ j hj
        exact hs.hp.own _ _ b (at_ j q hq) h2
      · exact .inr (Nat.le_trans hs.keep.size h2)
    · rw [σ2_out id (mem_out id hid)] at hb
      exact hs.hp.own id o' b h1 hb
  · intro id id' o o' b ho ho' hb hb'
    rcases get id o ho with ⟨i, q, hi, he, hq, rfl⟩ | ⟨hid, q, h1, rfl⟩
    · subst he
      rw [σ2_in i hi] at hb
      rcases get id' o' ho' with ⟨i', q', hi', he', hq', rfl⟩ | ⟨hid', q', h1', rfl⟩
      · subst he'
        rw [σ2_in i' hi'] at hb'
        rw [hH'.inj i i' q q' b hq hq' hb hb']
      · rw [σ2_out id' (mem_out id' hid')] at hb'
        exfalso
        rcases hH'.own i q b hq hb with h2 | h2
        · exact other id' q' b hid' h1' hb' h2
        · have := blk_lt (hs.hp.obj id' q' h1') hb'; omega
    · rw [σ2_out id (mem_out id hid)] at hb
      rcases get id' o' ho' with ⟨i', q', hi', he', hq', rfl⟩ | ⟨hid', q', h1', rfl⟩
      · subst he'
        rw [σ2_in i' hi'] at hb'
        exfalso
        rcases hH'.own i' q' b hq' hb' with h2 | h2
        · exact other id q b hid h1 hb h2
        · have := blk_lt (hs.hp.obj id q h1) hb; omega
      · rw [σ2_out id' (mem_out id' hid')] at hb'
        exact hs.hp.inj id id' q q' b h1 h1' hb hb'
  · refine ⟨hkeep.os.trans hs.keep.os, hkeep.tape.trans hs.keep.tape, hkeep.output.trans hs.keep.output, Nat.le_trans hs.keep.size hkeep.size, fun k hk hB => ?_⟩
    refine (hkeep.block k (Nat.lt_of_lt_of_le hk hs.keep.size) ?_).trans (hs.keep.block k hk hB)
    rintro ⟨i, hi, hb⟩
    obtain ⟨q, hq⟩ := some_ i hi
    rcases hs.hp.own _ _ k (at_ i q hq) hb with h2 | h2
    · exact hB h2
    · omega
  · intro id h1 h2
    have h3 : id ∉ chg ρ ch (List.range ρ.length) := by
      intro hm
      rcases mayTurn_spec hturn id hm with h4 | h4
      · simp only [AS.after] at h1; omega
      · simp only [AS.after] at h2; rw [h4] at h2; cases h2
    rw [(hwipe id (Nat.lt_of_lt_of_le h1 hs.nx) h3).2]
    exact hs.hs id h1 h2
  · intro b hb
    rcases hSn b hb with h2 | h2 | ⟨i, hi, h2⟩
    · exact hs.up b h2
    · exact .inr (.inl (Nat.le_trans hs.keep.size h2))
    · obtain ⟨q, hq⟩ := some_ i hi
      rcases hs.hp.own _ _ b (at_ i q hq) h2 with h3 | h3
      · exact .inr (.inr h3)
      · exact .inr (.inl h3)

theorem callR_of_frame_eq {g : Nat} {args : List AV} {objs O : List AObj} {ch : Nat → Bool} (h : CallF P g args objs ch (fun _ o => o = O)) (ρ : List Nat) {s : AS} {R : AV → AS → Prop} {args' : List AV} (ha : args' = args.map (AV.ren ρ))
    (hnd : nodupB ρ = true) (hob : lieAt s ρ ρ objs) (hok : (oidsB ρ.length objs && argsB ρ.length args && mayTurn s (chg ρ ch (List.range ρ.length))) = true)
    (hR : ∀ r : AV, R (r.ren ρ) (s.after ρ ch O)) : CallR P g args' s R := callR_of_frame h ρ ha hnd hob hok fun r o hq => by subst hq; exact hR r

theorem callR_of_frame_eq2 {g : Nat} {args : List AV} {objs O : List AObj} {r0 : AV} {ch : Nat → Bool} (h : CallF P g args objs ch (fun r o => r = r0 ∧ o = O)) (ρ : List Nat) {s : AS} {R : AV → AS → Prop} {args' : List AV} (ha : args' = args.map (AV.ren ρ))
    (hnd : nodupB ρ = true) (hob : lieAt s ρ ρ objs) (hok : (oidsB ρ.length objs && argsB ρ.length args && mayTurn s (chg ρ ch (List.range ρ.length))) = true)
    (hR : R (r0.ren ρ) (s.after ρ ch O)) : CallR P g args' s R := callR_of_frame h ρ ha hnd hob hok fun r o hq => by obtain ⟨h1, h2⟩ := hq; subst h1 h2; exact hR

end
end Go.Proofs.Ytijjagkeaehhbaa.Eng
