/- The engine: a call told in its own names, at whatever names. And what follows in this text; each statement bears its conditions. -/
import Derived.Test.YtijjagkeaehhbaaGreatKce
import Derived.Test.YtijjagkeaehhbaaGreatProg
/- The engine: a call told in its own names, at whatever names. -/
set_option linter.unusedSimpArgs false
set_option linter.unusedVariables false
namespace Go.Proofs.YtijjagkeaehhbaaGreat.Eng
open Go.RowKit (Below)

def nodupB : List Nat → Bool
  | [] => true
  | a :: r => !(memb a r) && nodupB r
def aobjIds : AObj → List Nat
  | .box _ cs => lids cs
  | .row _ _ _ => []
def oidsB (m : Nat) : List AObj → Bool
  | [] => true
  | o :: r => belowAll m (aobjIds o) && oidsB m r
def argsB (m : Nat) : List AV → Bool
  | [] => true
  | x :: r => belowAll m x.ids && argsB m r
/-- The objects lie in the state under the names. -/
def lieAt (s : AS) (ρ : List Nat) : List Nat → List AObj → Prop
  | a :: r, o :: os => s.hp a = some (o.ren ρ) ∧ lieAt s ρ r os
  | [], [] => True
  | _, _ => False
/-- Handles that turn may turn. -/
def mayTurn (s : AS) : List Nat → Bool
  | [] => true
  | i :: r => (Nat.ble s.n0 i || s.c0 i) && mayTurn s r

theorem nodupB_spec : ∀ {ρ : List Nat}, nodupB ρ = true → ρ.Nodup
  | [], _ => List.nodup_nil
  | a :: r, h => by
    simp only [nodupB, Bool.and_eq_true, Bool.not_eq_true'] at h
    refine List.nodup_cons.2 ⟨fun hm => ?_, nodupB_spec h.2⟩
    rw [memb_iff.2 hm] at h
    cases h.1
theorem rn_get {ρ : List Nat} {i j : Nat} (h : ρ[i]? = some j) : rn ρ i = j := by unfold rn; rw [h]
theorem rn_inj {ρ : List Nat} (hn : ρ.Nodup) {i j : Nat} (hi : i < ρ.length) (hj : j < ρ.length) (h : rn ρ i = rn ρ j) : i = j := by
  rw [rn_get (List.getElem?_eq_getElem hi), rn_get (List.getElem?_eq_getElem hj)] at h
  rcases Nat.lt_trichotomy i j with h1 | h1 | h1
  · exact absurd h (List.pairwise_iff_getElem.1 hn i j hi hj h1)
  · exact h1
  · exact absurd h.symm (List.pairwise_iff_getElem.1 hn j i hj hi h1)

theorem lieAt_spec {s : AS} {ρ : List Nat} : ∀ (l : List Nat) (os : List AObj), lieAt s ρ l os → l.length = os.length ∧ ∀ (i : Nat) a o, l[i]? = some a → os[i]? = some o → s.hp a = some (o.ren ρ)
  | [], [], _ => ⟨rfl, by simp⟩
  | a :: r, o :: os, h => by
    obtain ⟨h1, h2⟩ := lieAt_spec r os h.2
    refine ⟨by simp [h1], fun i b q hb hq => ?_⟩
    match i with
    | 0 => simp only [List.getElem?_cons_zero, Option.some.injEq] at hb hq; subst hb hq; exact h.1
    | i + 1 => exact h2 i b q (by simpa using hb) (by simpa using hq)
  | [], _ :: _, h => h.elim
  | _ :: _, [], h => h.elim
theorem oidsB_spec {m : Nat} : ∀ {os : List AObj}, oidsB m os = true → ∀ (i : Nat) o, os[i]? = some o → ∀ k ∈ aobjIds o, k < m
  | [], _, i, o, h => by simp at h
  | q :: os, h, i, o, hi => by
    simp only [oidsB, Bool.and_eq_true] at h
    match i with
    | 0 => simp only [List.getElem?_cons_zero, Option.some.injEq] at hi; subst hi; exact belowAll_iff.1 h.1
    | i + 1 => exact oidsB_spec h.2 i o (by simpa using hi)
theorem argsB_spec {m : Nat} : ∀ {os : List AV}, argsB m os = true → ∀ (i : Nat) o, os[i]? = some o → ∀ k ∈ o.ids, k < m
  | [], _, i, o, h => by simp at h
  | q :: os, h, i, o, hi => by
    simp only [argsB, Bool.and_eq_true] at h
    match i with
    | 0 => simp only [List.getElem?_cons_zero, Option.some.injEq] at hi; subst hi; exact belowAll_iff.1 h.1
    | i + 1 => exact argsB_spec h.2 i o (by simpa using hi)
theorem mayTurn_spec {s : AS} : ∀ {l : List Nat}, mayTurn s l = true → ∀ i ∈ l, s.n0 ≤ i ∨ s.c0 i = true
  | [], _, i, h => by cases h
  | a :: r, h, i, hi => by
    simp only [mayTurn, Bool.and_eq_true, Bool.or_eq_true] at h
    rcases List.mem_cons.1 hi with rfl | hi
    · exact h.1.imp Nat.le_of_ble_eq_true id
    · exact mayTurn_spec h.2 i hi
theorem mem_chg {ρ : List Nat} {ch : Nat → Bool} : ∀ {l : List Nat} {k : Nat}, k ∈ chg ρ ch l ↔ ∃ i ∈ l, ch i = true ∧ rn ρ i = k
  | [], k => by simp [chg]
  | i :: r, k => by
    simp only [chg]
    cases hc : ch i with
    | true => simp only [cond_true, List.mem_cons, mem_chg (l := r)]; constructor
              · rintro (rfl | ⟨j, h1, h2⟩)
                · exact ⟨i, .inl rfl, hc, rfl⟩
                · exact ⟨j, .inr h1, h2⟩
              · rintro ⟨j, rfl | h1, h2, h3⟩
                · exact .inl h3.symm
                · exact .inr ⟨j, h1, h2, h3⟩
    | false => simp only [cond_false, List.mem_cons, mem_chg (l := r)]; constructor
               · rintro ⟨j, h1, h2⟩; exact ⟨j, .inr h1, h2⟩
               · rintro ⟨j, rfl | h1, h2, h3⟩
                 · rw [hc] at h2; cases h2
                 · exact ⟨j, h1, h2, h3⟩
theorem setAll_spec {hp : Nat → Option AObj} : ∀ (ρ : List Nat) (os : List AObj), ρ.length = os.length → ρ.Nodup → (∀ (i : Nat) a o, ρ[i]? = some a → os[i]? = some o → setAll ρ os hp a = some o) ∧ ∀ j, j ∉ ρ → setAll ρ os hp j = hp j
  | [], [], _, _ => ⟨by simp, fun j _ => rfl⟩
  | a :: r, o :: os, hl, hn => by
    obtain ⟨h1, h2⟩ := setAll_spec (hp := hp) r os (by simpa using hl) (List.nodup_cons.1 hn).2
    refine ⟨fun i b q hb hq => ?_, fun j hj => ?_⟩
    · match i with
      | 0 => simp only [List.getElem?_cons_zero, Option.some.injEq] at hb hq; subst hb hq; simp only [setAll, Nat.beq_refl, cond_true]
      | i + 1 =>
        have hne : b ≠ a := fun e => by subst e; exact (List.nodup_cons.1 hn).1 (List.mem_of_getElem? (by simpa using hb))
        simp only [setAll, beq_ne hne, cond_false]
        exact h1 i b q (by simpa using hb) (by simpa using hq)
    · have hne : j ≠ a := fun e => hj (by subst e; simp)
      simp only [setAll, beq_ne hne, cond_false]
      exact h2 j fun h => hj (List.mem_cons_of_mem _ h)
  | [], _ :: _, h, _ => by simp at h
  | _ :: _, [], h, _ => by simp at h

section
variable {P : Program} {T : Tab} {C : Ctx} {s : AS} {S S' : Nat → Prop} {σ : Nat → Value} {a : Act} {w : World} {m : Nat}

theorem callR_of_frame {g : Nat} {args : List AV} {objs : List AObj} {ch : Nat → Bool} {Q : AV → List AObj → Prop} (h : CallF P g args objs ch Q) (ρ : List Nat) {s : AS} {R : AV → AS → Prop} {args' : List AV} (ha : args' = args.map (AV.ren ρ))
    (hnd : nodupB ρ = true) (hob : lieAt s ρ ρ objs) (hok : (oidsB ρ.length objs && argsB ρ.length args && mayTurn s (chg ρ ch (List.range ρ.length))) = true)
    (hR : ∀ r objs', Q r objs' → R (r.ren ρ) (s.after ρ ch objs')) : CallR P g args' s R := by
  subst ha
  refine ⟨h.1, fun C S σ a w hs vs hn hv => ?_⟩
  simp only [Bool.and_eq_true] at hok
  obtain ⟨⟨hoid, harg⟩, hturn⟩ := hok
  have hnd := nodupB_spec hnd
  obtain ⟨hlen, hat⟩ := lieAt_spec ρ objs hob
  have m_def : objs.length = ρ.length := hlen.symm
  -- where the i-th lies
  have at_ : ∀ i o, objs[i]? = some o → s.hp (rn ρ i) = some (o.ren ρ) := fun i o ho => by
    have hi : i < ρ.length := by rw [hlen]; exact (List.getElem?_eq_some_iff.1 ho).1
    rw [rn_get (List.getElem?_eq_getElem hi)]
    exact hat i _ o (List.getElem?_eq_getElem hi) ho
  have inj_ : ∀ i j, i < objs.length → j < objs.length → rn ρ i = rn ρ j → i = j := fun i j hi hj e => rn_inj hnd (by omega) (by omega) e
  have some_ : ∀ i, i < objs.length → ∃ o, objs[i]? = some o := fun i hi => ⟨_, List.getElem?_eq_getElem hi⟩
  have ltnx : ∀ i, i < objs.length → rn ρ i < s.nx := fun i hi => let ⟨o, ho⟩ := some_ i hi; hs.hp.lt _ _ (at_ i o ho)
  have hH : HR (Bof (fun i => σ (rn ρ i)) objs.length) w S (fun i => σ (rn ρ i)) objs.length (hpOf objs) := by
    refine ⟨fun i o ho => (List.getElem?_eq_some_iff.1 ho).1, fun i o ho => ?_, fun i o b ho hb => hs.hp.notS _ _ b (at_ i o ho) hb, fun i o b ho hb => ⟨i, (List.getElem?_eq_some_iff.1 ho).1, hb⟩,
      fun i i' o o' b ho ho' hb hb' => inj_ i i' (List.getElem?_eq_some_iff.1 ho).1 (List.getElem?_eq_some_iff.1 ho').1 (hs.hp.inj _ _ _ _ b (at_ i o ho) (at_ i' o' ho') hb hb')⟩
    have hobj := hs.hp.obj _ _ (at_ i o ho)
    have hids := oidsB_spec hoid i o ho
    cases o with
    | box t cs =>
      obtain ⟨b, vs, h1, h2, h3⟩ := hobj
      exact ⟨b, vs, h1, h2, h3.unren (fun _ _ => rfl) (fun k hk => by rw [m_def]; exact hids k hk)⟩
    | row t sz rows => exact hobj
  have hargs : ∀ (i : Nat) (x : AV), args[i]? = some x → ∃ v, vs[i]? = some v ∧ AVR w S (fun i => σ (rn ρ i)) objs.length x v := by
    intro i x hx
    obtain ⟨v, h1, h2⟩ := hv i (x.ren ρ) (by rw [List.getElem?_map, hx]; rfl)
    exact ⟨v, h1, h2.unren (fun _ _ => rfl) fun k hk => by rw [m_def]; exact argsB_spec harg i x hx k hk⟩
  refine (h.2 w S _ hs.lt hH vs (by simpa using hn) hargs).mono ?_
  rintro e w' ⟨v, r, objs', S', σ', hQ, rfl, hl', hkeep, hSS, hSn, hSlt, hH', hσ', hr⟩
  classical
  let σ2 : Nat → Value := fun id => if h : ∃ i, i < objs.length ∧ rn ρ i = id then σ' (Classical.choose h) else σ id
  have σ2_in : ∀ i, i < objs.length → σ2 (rn ρ i) = σ' i := by
    intro i hi
    have hex : ∃ j, j < objs.length ∧ rn ρ j = rn ρ i := ⟨i, hi, rfl⟩
    show (if h : ∃ j, j < objs.length ∧ rn ρ j = rn ρ i then σ' (Classical.choose h) else σ (rn ρ i)) = σ' i
    rw [dif_pos hex]
    obtain ⟨h1, h2⟩ := Classical.choose_spec hex
    rw [inj_ _ _ h1 hi h2]
  have σ2_out : ∀ id, (∀ i, i < objs.length → rn ρ i ≠ id) → σ2 id = σ id := by
    intro id hno
    show (if h : ∃ j, j < objs.length ∧ rn ρ j = id then σ' (Classical.choose h) else σ id) = σ id
    rw [dif_neg]
    rintro ⟨i, h1, h2⟩
    exact hno i h1 h2
  have mem_out : ∀ id, id ∉ ρ → ∀ i, i < objs.length → rn ρ i ≠ id := by
    intro id hid i hi e
    refine hid ?_
    rw [← e, rn_get (List.getElem?_eq_getElem (show i < ρ.length by omega))]
    exact List.getElem_mem _
  have in_mem : ∀ id, id ∈ ρ → ∃ i, i < objs.length ∧ rn ρ i = id ∧ ρ[i]? = some id := by
    intro id hid
    obtain ⟨i, hi, he⟩ := List.getElem_of_mem hid
    have : ρ[i]? = some id := by rw [List.getElem?_eq_getElem hi, he]
    exact ⟨i, by omega, rn_get this, this⟩
  have hwipe : ∀ id, id < s.nx → id ∉ chg ρ ch (List.range ρ.length) → id < s.nx ∧ σ2 id = σ id := by
    intro id h1 h2
    refine ⟨h1, ?_⟩
    by_cases hid : id ∈ ρ
    · obtain ⟨i, hi, he, hg⟩ := in_mem id hid
      subst he
      rw [σ2_in i hi]
      refine hσ' i hi ?_
      cases hc : ch i with
      | false => rfl
      | true => exact absurd (mem_chg.2 ⟨i, List.mem_range.2 (by omega), hc, rfl⟩) h2
    · exact σ2_out id (mem_out id hid)
  have notB : ∀ b, S b → ¬ Bof (fun i => σ (rn ρ i)) objs.length b := by
    rintro b hb ⟨i, hi, hbk⟩
    obtain ⟨o, ho⟩ := some_ i hi
    exact hs.hp.notS _ _ b (at_ i o ho) hbk hb
  have hkS : ∀ b, S b → w'.heap[b]? = w.heap[b]? := fun b hb => hkeep.block b (hs.lt b hb) (notB b hb)
  -- an object that was not handed in
  have other : ∀ id o b, id ∉ ρ → s.hp id = some o → blk (σ id) = some b → ¬ Bof (fun i => σ (rn ρ i)) objs.length b := by
    rintro id o b hid ho hb ⟨i, hi, hbk⟩
    obtain ⟨q, hq⟩ := some_ i hi
    exact mem_out id hid i hi (hs.hp.inj _ _ _ _ b (at_ i q hq) ho hbk hb)
  obtain ⟨hset1, hset2⟩ := setAll_spec (hp := fun j => (s.hp j).map (AObj.wipe (chg ρ ch (List.range ρ.length)))) ρ (objs'.map (AObj.ren ρ)) (by simp; omega) hnd
  have get : ∀ id o, (s.after ρ ch objs').hp id = some o → (∃ i o', i < objs.length ∧ rn ρ i = id ∧ objs'[i]? = some o' ∧ o = o'.ren ρ) ∨ (id ∉ ρ ∧ ∃ o', s.hp id = some o' ∧ o = o'.wipe (chg ρ ch (List.range ρ.length))) := by
    intro id o ho
    simp only [AS.after] at ho
    by_cases hid : id ∈ ρ
    · obtain ⟨i, hi, he, hg⟩ := in_mem id hid
      have hi' : i < objs'.length := by omega
      have := hset1 i id _ hg (by rw [List.getElem?_map, List.getElem?_eq_getElem hi']; rfl)
      rw [this] at ho
      simp only [Option.some.injEq] at ho
      exact .inl ⟨i, _, hi, he, List.getElem?_eq_getElem hi', ho.symm⟩
    · rw [hset2 id hid] at ho
      obtain ⟨o', h1, h2⟩ := Option.map_eq_some_iff.1 ho
      exact .inr ⟨hid, o', h1, h2.symm⟩
  have hren : ∀ i, i < objs.length → rn ρ i < s.nx ∧ σ2 (rn ρ i) = σ' i := fun i hi => ⟨ltnx i hi, σ2_in i hi⟩
  refine ⟨v, r.ren ρ, s.after ρ ch objs', S', σ2, hR r objs' hQ, rfl, hr.ren hren, ⟨hs.size, hs.defers, fun i => (hs.fr i).wipe hkS hSS hwipe, ⟨?_, ?_, ?_, ?_, ?_⟩, hSlt, fun b hb => hSS b (hs.le b hb), ?_, hs.nx, ?_, ?_⟩⟩
  · intro id o ho
    rcases get id o ho with ⟨i, o', hi, he, _⟩ | ⟨_, o', h1, _⟩
    · exact he ▸ ltnx i hi
    · exact hs.hp.lt id o' h1
  · intro id o ho
    rcases get id o ho with ⟨i, o', hi, he, ho', rfl⟩ | ⟨hid, o', h1, rfl⟩
    · have := hH'.obj i o' ho'
      subst he
      cases o' with
      | box t cs =>
        obtain ⟨b, vs, h2, h3, h4⟩ := this
        exact ⟨b, vs, (σ2_in i hi).trans h2, h3, h4.ren hren⟩
      | row t sz rows =>
        obtain ⟨h0, xs, h2, h3, h4⟩ := this
        exact ⟨h0, xs, by rw [σ2_in i hi]; exact h2, h3, h4⟩
    · have hobj := hs.hp.obj id o' h1
      have hσid : σ2 id = σ id := σ2_out id (mem_out id hid)
      have hblk : ∀ b, blk (σ id) = some b → w'.heap[b]? = w.heap[b]? := fun b hb => hkeep.block b (blk_lt hobj hb) (other id o' b hid h1 hb)
      cases o' with
      | box t cs =>
        obtain ⟨b, vs, h2, h3, h4⟩ := hobj
        refine ⟨b, vs, hσid.trans h2, (hblk b (by rw [h2]; rfl)).trans h3, by simpa using h4.1, fun i x hx => ?_⟩
        rw [List.getElem?_map] at hx
        obtain ⟨y, h5, rfl⟩ := Option.map_eq_some_iff.1 hx
        obtain ⟨u, h6, h7⟩ := h4.2 i y h5
        exact ⟨u, h6, h7.wipe hkS hSS hwipe⟩
      | row t sz rows =>
        obtain ⟨h0, xs, h2, h3, h4⟩ := hobj
        refine ⟨h0, xs, ?_, h3, fun i j r p hr hp => let ⟨u, hu, hh⟩ := h4 i j r p hr hp; ⟨u, hu, hh.mono hkS hSS⟩⟩
        rw [hσid]
        refine ⟨h2.1, ?_⟩
        rcases h2.2 with h6 | ⟨g, cap, cur, hv', hg, hh, r⟩
        · exact .inl h6
        · exact .inr ⟨g, cap, cur, hv', hg, (hblk g (by rw [hv']; rfl)).trans hh, r⟩
  · intro id o b ho hb
    rcases get id o ho with ⟨i, o', hi, he, ho', rfl⟩ | ⟨hid, o', h1, rfl⟩
    · subst he
      rw [σ2_in i hi] at hb
      exact hH'.notS i o' b ho' hb
    · rw [σ2_out id (mem_out id hid)] at hb
      intro hS'
      rcases hSn b hS' with h2 | h2 | h2
      · exact hs.hp.notS id o' b h1 hb h2
      · have := blk_lt (hs.hp.obj id o' h1) hb; omega
      · exact other id o' b hid h1 hb h2
  · intro id o b ho hb
    rcases get id o ho with ⟨i, o', hi, he, ho', rfl⟩ | ⟨hid, o', h1, rfl⟩
    · subst he
      rw [σ2_in i hi] at hb
      rcases hH'.own i o' b ho' hb with ⟨j, hj, h2⟩ | h2
      · obtain ⟨q, hq⟩ := some_ j hj
        exact hs.hp.own _ _ b (at_ j q hq) h2
      · exact .inr (Nat.le_trans hs.keep.size h2)
    · rw [σ2_out id (mem_out id hid)] at hb
      exact hs.hp.own id o' b h1 hb
  · intro id id' o o' b ho ho' hb hb'
    rcases get id o ho with ⟨i, q, hi, he, hq, rfl⟩ | ⟨hid, q, h1, rfl⟩
    · subst he
      rw [σ2_in i hi] at hb
      rcases get id' o' ho' with ⟨i', q', hi', he', hq', rfl⟩ | ⟨hid', q', h1', rfl⟩
      · subst he'
        rw [σ2_in i' hi'] at hb'
        rw [hH'.inj i i' q q' b hq hq' hb hb']
      · rw [σ2_out id' (mem_out id' hid')] at hb'
        exfalso
        rcases hH'.own i q b hq hb with h2 | h2
        · exact other id' q' b hid' h1' hb' h2
        · have := blk_lt (hs.hp.obj id' q' h1') hb'; omega
    · rw [σ2_out id (mem_out id hid)] at hb
      rcases get id' o' ho' with ⟨i', q', hi', he', hq', rfl⟩ | ⟨hid', q', h1', rfl⟩
      · subst he'
        rw [σ2_in i' hi'] at hb'
        exfalso
        rcases hH'.own i' q' b hq' hb' with h2 | h2
        · exact other id q b hid h1 hb h2
        · have := blk_lt (hs.hp.obj id q h1) hb; omega
      · rw [σ2_out id' (mem_out id' hid')] at hb'
        exact hs.hp.inj id id' q q' b h1 h1' hb hb'
  · refine ⟨hkeep.os.trans hs.keep.os, hkeep.tape.trans hs.keep.tape, hkeep.output.trans hs.keep.output, Nat.le_trans hs.keep.size hkeep.size, fun k hk hB => ?_⟩
    refine (hkeep.block k (Nat.lt_of_lt_of_le hk hs.keep.size) ?_).trans (hs.keep.block k hk hB)
    rintro ⟨i, hi, hb⟩
    obtain ⟨q, hq⟩ := some_ i hi
    rcases hs.hp.own _ _ k (at_ i q hq) hb with h2 | h2
    · exact hB h2
    · omega
  · intro id h1 h2
    have h3 : id ∉ chg ρ ch (List.range ρ.length) := by
      intro hm
      rcases mayTurn_spec hturn id hm with h4 | h4
      · simp only [AS.after] at h1; omega
      · simp only [AS.after] at h2; rw [h4] at h2; cases h2
    rw [(hwipe id (Nat.lt_of_lt_of_le h1 hs.nx) h3).2]
    exact hs.hs id h1 h2
  · intro b hb
    rcases hSn b hb with h2 | h2 | ⟨i, hi, h2⟩
    · exact hs.up b h2
    · exact .inr (.inl (Nat.le_trans hs.keep.size h2))
    · obtain ⟨q, hq⟩ := some_ i hi
      rcases hs.hp.own _ _ b (at_ i q hq) h2 with h3 | h3
      · exact .inr (.inr h3)
      · exact .inr (.inl h3)

theorem callR_of_frame_eq {g : Nat} {args : List AV} {objs O : List AObj} {ch : Nat → Bool} (h : CallF P g args objs ch (fun _ o => o = O)) (ρ : List Nat) {s : AS} {R : AV → AS → Prop} {args' : List AV} (ha : args' = args.map (AV.ren ρ))
    (hnd : nodupB ρ = true) (hob : lieAt s ρ ρ objs) (hok : (oidsB ρ.length objs && argsB ρ.length args && mayTurn s (chg ρ ch (List.range ρ.length))) = true)
    (hR : ∀ r : AV, R (r.ren ρ) (s.after ρ ch O)) : CallR P g args' s R := callR_of_frame h ρ ha hnd hob hok fun r o hq => by subst hq; exact hR r

theorem callR_of_frame_eq2 {g : Nat} {args : List AV} {objs O : List AObj} {r0 : AV} {ch : Nat → Bool} (h : CallF P g args objs ch (fun r o => r = r0 ∧ o = O)) (ρ : List Nat) {s : AS} {R : AV → AS → Prop} {args' : List AV} (ha : args' = args.map (AV.ren ρ))
    (hnd : nodupB ρ = true) (hob : lieAt s ρ ρ objs) (hok : (oidsB ρ.length objs && argsB ρ.length args && mayTurn s (chg ρ ch (List.range ρ.length))) = true)
    (hR : R (r0.ren ρ) (s.after ρ ch O)) : CallR P g args' s R := callR_of_frame h ρ ha hnd hob hok fun r o hq => by obtain ⟨h1, h2⟩ := hq; subst h1 h2; exact hR

end
end Go.Proofs.YtijjagkeaehhbaaGreat.Eng

/- The engine: interface values. -/
set_option linter.unusedSimpArgs false
set_option linter.unusedVariables false
namespace Go.Proofs.YtijjagkeaehhbaaGreat.Eng
open Go.RowKit (Below)

def notIface (P : Program) (t : Nat) : Bool := match P.underlying t with | some (.interface _) => false | some _ => true | none => false

section
variable {P : Program} {ev : Operand → AV} {dst : Option Tmp} {ty : TypeId} {pos : String} {af : Array Edge} {gd : Option (Nat × Bool)}

theorem iface_at {w S σ n t ps v} (h : AVR w S σ n (.pv (.ifa t ps)) v) : ∃ vs : Array Value, v = .iface t (.agg vs) ∧ LsR w S σ n (pvs ps) vs := by
  have h := h.pv_inv
  cases h with
  | ifa t ps vs hn hp =>
    refine ⟨vs, rfl, by rw [(pvs_spec ps).1]; exact hn, fun i x hx => ?_⟩
    obtain ⟨p, hp', rfl⟩ := (pvs_spec ps).2.1 i x hx
    have hlt : i < vs.size := by rw [hn]; exact (List.getElem?_eq_some_iff.1 hp').1
    refine ⟨vs[i], Array.getElem?_eq_getElem hlt, .pv ?_⟩
    have := hp i p hp'
    simpa [Array.getD_eq_getD_getElem?, Array.getElem?_eq_getElem hlt] using this
theorem ls_iface {w S σ n t xs ps vs} (h : LsR w S σ n xs vs) (hp : pures xs = some ps) : AVR w S σ n (.pv (.ifa t ps)) (.iface t (.agg vs)) := by
  have := pures_spec hp
  subst this
  refine .one (.lf (.pv (.ifa t ps vs (by rw [← (pvs_spec ps).1]; exact h.1) fun j p hj => ?_)))
  obtain ⟨v, hv, hr⟩ := h.2 j _ ((pvs_spec ps).2.2 j p hj)
  simp only [Array.getD_eq_getD_getElem?, hv, Option.getD_some]
  cases hr with | pv hr => exact hr

theorem pure_mk {t : Nat} {x : Operand} {xs : List LV} {ps : List PV} (hx : ev x = .agg xs) (hp : pures xs = some ps) (ht : notIface P t = true) : PureOp P ⟨dst, .makeInterface t x, ty, pos, af, gd⟩ ev (.pv (.ifa t ps)) := by
  constructor
  intro w S σ n ρ hρ
  have hv := hρ x (by simp [Op.operands])
  rw [hx] at hv
  generalize hq : ρ x = v at hv
  cases hv with
  | one hv =>
    cases hv with
    | agg hv =>
      refine ⟨_, ?_, ls_iface hv hp⟩
      unfold notIface at ht
      cases hu : P.underlying t with
      | none => rw [hu] at ht; cases ht
      | some d =>
        rw [hu] at ht
        cases d <;> first | (cases ht; done) | simp [execOp, Instr.makeInterface, run_underlying hu, hq]

theorem pure_hit {t a : Nat} {x : Operand} {ps : List PV} (hx : ev x = .pv (.ifa t ps)) (ht : notIface P t = true) : PureOp P ⟨dst, .typeAssert x a t true, ty, pos, af, gd⟩ ev (.tup [.agg (pvs ps), .lf (.pv (.bool true))]) := by
  constructor
  intro w S σ n ρ hρ
  have hv := hρ x (by simp [Op.operands])
  rw [hx] at hv
  obtain ⟨vs, he, hl⟩ := iface_at hv
  refine ⟨.tuple #[.agg vs, .bool true], ?_, .tup (by simp) fun i r hr => ?_⟩
  · unfold notIface at ht
    cases hu : P.underlying t with
    | none => rw [hu] at ht; cases ht
    | some d =>
      rw [hu] at ht
      cases d <;> first | (cases ht; done) | simp [execOp, Instr.typeAssert, run_underlying hu, he]
  · match i with
    | 0 => simp at hr; subst hr; exact ⟨_, rfl, .agg hl⟩
    | 1 => simp at hr; subst hr; exact ⟨_, rfl, .lf (.pv (.bool true))⟩
    | i + 2 => simp at hr

theorem pure_miss {T : Tab} (hT : TOK P T) {t u a : Nat} {x : Operand} {ps : List PV} {i : TI} (hi : T t = some i) (ha : i.agg = true) (hx : ev x = .pv (.ifa u ps)) (ht : notIface P t = true) (hne : Nat.beq u t = false) :
    PureOp P ⟨dst, .typeAssert x a t true, ty, pos, af, gd⟩ ev (.tup [.agg (pvs i.zero), .lf (.pv (.bool false))]) := by
  constructor
  intro w S σ n ρ hρ
  have hv := hρ x (by simp [Op.operands])
  rw [hx] at hv
  obtain ⟨vs, he, hl⟩ := iface_at hv
  obtain ⟨j, d, z, htt⟩ := typeOk (hT t i hi)
  have hzl := htt.zls w S σ n
  have hne' : ¬ u = t := fun e => by subst e; rw [Nat.beq_refl] at hne; cases hne
  obtain ⟨zc, hz⟩ : ∃ zc, z = .agg zc := by
    have hz := htt.zagg
    rw [ha] at hz
    cases z <;> first | exact ⟨_, rfl⟩ | simp [zagg] at hz
  subst hz
  refine ⟨.tuple #[.agg zc, .bool false], ?_, .tup (by simp) fun i r hr => ?_⟩
  · unfold notIface at ht
    cases hu : P.underlying t with
    | none => rw [hu] at ht; cases ht
    | some d =>
      rw [hu] at ht
      cases d <;> first | (cases ht; done) | simp [execOp, Instr.typeAssert, run_underlying hu, he, hne', htt.run_zero]
  · match i with
    | 0 => simp at hr; subst hr; exact ⟨_, rfl, .agg hzl⟩
    | 1 => simp at hr; subst hr; exact ⟨_, rfl, .lf (.pv (.bool false))⟩
    | i + 2 => simp at hr
theorem pure_nil {T : Tab} (hT : TOK P T) {t a : Nat} {x : Operand} {i : TI} (hi : T t = some i) (ha : i.agg = true) (hx : ev x = .pv .nilif) (ht : notIface P t = true) :
    PureOp P ⟨dst, .typeAssert x a t true, ty, pos, af, gd⟩ ev (.tup [.agg (pvs i.zero), .lf (.pv (.bool false))]) := by
  constructor
  intro w S σ n ρ hρ
  have hv := hρ x (by simp [Op.operands])
  rw [hx] at hv
  have he : ρ x = .nilIface := by have := hv.pv_inv; generalize ρ x = v at this; cases this; rfl
  obtain ⟨j, d, z, htt⟩ := typeOk (hT t i hi)
  have hzl := htt.zls w S σ n
  obtain ⟨zc, hz⟩ : ∃ zc, z = .agg zc := by
    have hz := htt.zagg
    rw [ha] at hz
    cases z <;> first | exact ⟨_, rfl⟩ | simp [zagg] at hz
  subst hz
  refine ⟨.tuple #[.agg zc, .bool false], ?_, .tup (by simp) fun i r hr => ?_⟩
  · unfold notIface at ht
    cases hu : P.underlying t with
    | none => rw [hu] at ht; cases ht
    | some d =>
      rw [hu] at ht
      cases d <;> first | (cases ht; done) | simp [execOp, Instr.typeAssert, run_underlying hu, he, htt.run_zero]
  · match i with
    | 0 => simp at hr; subst hr; exact ⟨_, rfl, .agg hzl⟩
    | 1 => simp at hr; subst hr; exact ⟨_, rfl, .lf (.pv (.bool false))⟩
    | i + 2 => simp at hr

/-- A part of a slice that is read. -/
theorem pure_slice {t : Nat} {x : Operand} {lo hi : Option Operand} {sz : Nat} {rows : List (List PV)} {l h : Nat} (hx : ev x = .pv (.vs sz rows)) {e : Nat} (ht : P.underlying t = some (.slice e)) (hsz : P.cellsOf e = sz) (he : (P.info? e).isSome = true)
    (hlo : match lo with | some y => ∃ k, ev y = .pv (.int k l) | none => l = 0) (hhi : match hi with | some y => ∃ k, ev y = .pv (.int k h) | none => h = rows.length) (h1 : l ≤ h) (h2 : h ≤ rows.length) :
    PureOp P ⟨dst, .slice t x lo hi none, ty, pos, af, gd⟩ ev (.pv (.vs sz ((rows.take h).drop l))) := by
  constructor
  intro w S σ n ρ hρ
  have hv := (hx ▸ hρ x (by simp [Op.operands])).pv_inv
  generalize hq : ρ x = v at hv
  cases hv with
  | vs _ _ A cap f hc hm hN hs hA hone hp =>
    have hel : P.elem t = e := by simp [Program.elem, ht]
    have ht' : P.underlying t = some (.slice (P.elem t)) := by rw [hel]; exact ht
    have hs' : (sizeOf (P.elem t)).run P w = .ok sz w := by
      rw [hel]
      obtain ⟨i, hi⟩ := Option.isSome_iff_exists.1 he
      rw [← hsz]
      simp [sizeOf, typeInfo, hi, Program.cellsOf]
    have hrun : (Instr.sliceAt t (.slice A rows.length cap) (lo.map ρ) (hi.map ρ) none).run P w = .ok (sliced A l h cap sz) w := by
      rw [run_sliceAt_slice _ _ _ _ _ _ ht']
      cases lo with
      | none =>
        simp only at hlo
        subst hlo
        cases hi with
        | none =>
          simp only at hhi
          subst hhi
          rw [Option.map_none, run_slice_all _ _ _ _ _ ht', hs']
          rfl
        | some y =>
          obtain ⟨k, hy⟩ := hhi
          have := (hy ▸ hρ y (by simp [Op.operands])).int_inv
          rw [Option.map_none, Option.map_some, this, run_slice_h _ _ _ _ _ ht' _ _ (by omega) (by omega), hs']
          rfl
      | some x' =>
        obtain ⟨k', hx'⟩ := hlo
        have h3 := (hx' ▸ hρ x' (by simp [Op.operands])).int_inv
        cases hi with
        | none =>
          simp only at hhi
          subst hhi
          rw [Option.map_none, Option.map_some, h3, run_slice_l _ _ _ _ _ ht' _ _ (by omega) (by omega), hs']
          rfl
        | some y =>
          obtain ⟨k, hy⟩ := hhi
          have := (hy ▸ hρ y (by simp [Op.operands])).int_inv
          rw [Option.map_some, Option.map_some, h3, this, run_slice_lh _ _ _ _ _ ht' _ _ _ _ (by omega) (by omega) (by omega), hs']
          rfl
    refine ⟨_, by simp only [execOp, hq, Option.map_none]; exact run_v hrun, .one (.lf (.pv ?_))⟩
    have hlen : ((rows.take h).drop l).length = h - l := by rw [List.length_drop, List.length_take]; omega
    have hget : ∀ (i : Nat) r, ((rows.take h).drop l)[i]? = some r → rows[l + i]? = some r ∧ i < h - l := by
      intro i r hr
      have h3 : i < h - l := by rw [← hlen]; exact (List.getElem?_eq_some_iff.1 hr).1
      rw [List.getElem?_drop, List.getElem?_take_of_lt (by omega)] at hr
      exact ⟨hr, h3⟩
    have key := PVR.vs (w := w) (S := S) sz ((rows.take h).drop l) (if cap = l then A else A.map (·.add (l * sz))) (cap - l) (fun i j => f (l + i) j) (by rw [hlen]; omega) (by omega)
      (fun hn => by
        split at hn
        · omega
        · cases A with
          | none => have := hN rfl; omega
          | some a => cases hn)
      (fun r hr => hs r (List.mem_of_mem_take (List.mem_of_mem_drop hr)))
      (fun hne => by
        have h3 : 0 < h - l := by
          rw [← hlen]
          exact List.length_pos_iff.2 hne
        obtain ⟨b, o, h4, h5, h6⟩ := hA (by intro h0; subst h0; simp at h2; omega)
        subst h4
        refine ⟨b, o + l * sz, ?_, h5, fun i j hi hj => ?_⟩
        · rw [if_neg (by omega), Option.map_some, add_lit]
        · rw [hlen] at hi
          rw [← h6 (l + i) j (by omega) hj]
          congr 2
          rw [Nat.add_mul]
          omega)
      (fun i j hi hj => hone (l + i) j (by rw [hlen] at hi; omega) hj)
      (fun i j r p hr hj => hp (l + i) j r p (hget i r hr).1 hj)
    rw [hlen] at key
    exact key

end
end Go.Proofs.YtijjagkeaehhbaaGreat.Eng

/- The table of the program's types, and that the program says so. No condition. -/
set_option linter.unusedSimpArgs false
set_option linter.unusedVariables false
namespace Go.Proofs.YtijjagkeaehhbaaGreat.Eng

def ti1 : TI := ⟨false, 1, 8, [.nilf], [], none, false, none⟩
def ti2 : TI := ⟨false, 1, 8, [.int .i64 0], [], none, false, some .i64⟩
def ti3 : TI := ⟨false, 1, 8, [.int .i64 0], [], none, false, some .i64⟩
def ti4 : TI := ⟨false, 1, 1, [.bool false], [], none, false, none⟩
def ti5 : TI := ⟨false, 1, 1, [.int .u8 0], [], none, false, some .u8⟩
def ti6 : TI := ⟨false, 1, 1, [.int .u8 0], [], none, false, some .u8⟩
def ti7 : TI := ⟨true, 4, 24, [.int .i64 0, .int .i64 0, .bool false, .int .u8 0], [(0, 1, false), (1, 1, false), (2, 1, false), (3, 1, false)], none, false, none⟩
def ti8 : TI := ⟨true, 4, 24, [.int .i64 0, .int .i64 0, .bool false, .int .u8 0], [(0, 1, false), (1, 1, false), (2, 1, false), (3, 1, false)], none, false, none⟩
def ti9 : TI := ⟨false, 1, 16, [.str ⟨#[]⟩], [], none, true, none⟩
def ti10 : TI := ⟨false, 1, 16, [.str ⟨#[]⟩], [], none, true, none⟩
def ti11 : TI := ⟨false, 1, 16, [.str ⟨#[]⟩], [], none, true, none⟩
def ti12 : TI := ⟨false, 1, 8, [.int .u64 0], [], none, false, some .u64⟩
def ti13 : TI := ⟨true, 2, 24, [.str ⟨#[]⟩, .int .u64 0], [(0, 1, false), (1, 1, false)], none, false, none⟩
def ti14 : TI := ⟨true, 2, 24, [.str ⟨#[]⟩, .int .u64 0], [(0, 1, false), (1, 1, false)], none, false, none⟩
def ti15 : TI := ⟨false, 1, 8, [.nilp], [], none, false, none⟩
def ti16 : TI := ⟨false, 1, 8, [.nilp], [], none, false, none⟩
def ti17 : TI := ⟨false, 1, 8, [.nilp], [], none, false, none⟩
def ti18 : TI := ⟨true, 1, 8, [.nilp], [(0, 1, false)], none, false, none⟩
def ti19 : TI := ⟨true, 1, 8, [.nilp], [(0, 1, false)], none, false, none⟩
def ti20 : TI := ⟨false, 1, 16, [.nilif], [], none, false, none⟩
def ti21 : TI := ⟨false, 1, 4, [.int .i32 0], [], none, false, some .i32⟩
def ti22 : TI := ⟨false, 1, 24, [.nils], [], some 69, false, none⟩
def ti23 : TI := ⟨false, 1, 24, [.nils], [], some 3, false, none⟩
def ti24 : TI := ⟨false, 1, 24, [.nils], [], some 182, false, none⟩
def ti25 : TI := ⟨false, 1, 24, [.nils], [], some 31, false, none⟩
def ti26 : TI := ⟨true, 5, 112, [.str ⟨#[]⟩, .nils, .nils, .nils, .nils], [(0, 1, false), (1, 1, false), (2, 1, false), (3, 1, false), (4, 1, false)], none, false, none⟩
def ti27 : TI := ⟨true, 5, 112, [.str ⟨#[]⟩, .nils, .nils, .nils, .nils], [(0, 1, false), (1, 1, false), (2, 1, false), (3, 1, false), (4, 1, false)], none, false, none⟩
def ti28 : TI := ⟨true, 3, 32, [.int .i64 0, .int .i64 0, .str ⟨#[]⟩], [(0, 1, false), (1, 1, false), (2, 1, false)], none, false, none⟩
def ti29 : TI := ⟨true, 3, 32, [.int .i64 0, .int .i64 0, .str ⟨#[]⟩], [(0, 1, false), (1, 1, false), (2, 1, false)], none, false, none⟩
def ti30 : TI := ⟨true, 7, 88, [.int .i64 0, .int .i64 0, .int .i64 0, .int .i64 0, .str ⟨#[]⟩, .str ⟨#[]⟩, .nils], [(0, 1, false), (1, 1, false), (2, 3, true), (5, 1, false), (6, 1, false)], none, false, none⟩
def ti31 : TI := ⟨true, 7, 88, [.int .i64 0, .int .i64 0, .int .i64 0, .int .i64 0, .str ⟨#[]⟩, .str ⟨#[]⟩, .nils], [(0, 1, false), (1, 1, false), (2, 3, true), (5, 1, false), (6, 1, false)], none, false, none⟩
def ti32 : TI := ⟨true, 3, 24, [.int .i64 0, .int .i64 0, .int .i64 0], [(0, 1, false), (1, 1, false), (2, 1, false)], none, false, none⟩
def ti33 : TI := ⟨true, 3, 24, [.int .i64 0, .int .i64 0, .int .i64 0], [(0, 1, false), (1, 1, false), (2, 1, false)], none, false, none⟩
def ti34 : TI := ⟨true, 2, 16, [.int .i64 0, .int .i64 0], [(0, 1, false), (1, 1, false)], none, false, none⟩
def ti35 : TI := ⟨true, 2, 16, [.int .i64 0, .int .i64 0], [(0, 1, false), (1, 1, false)], none, false, none⟩
def ti36 : TI := ⟨false, 1, 24, [.nils], [], some 29, false, none⟩
def ti37 : TI := ⟨true, 9, 88, [.int .i64 0, .int .i64 0, .nils, .int .i64 0, .int .i64 0, .int .i64 0, .int .i64 0, .int .i64 0, .int .i64 0], [(0, 1, false), (1, 1, false), (2, 1, false), (3, 2, true), (5, 2, true), (7, 1, false), (8, 1, false)], none, false, none⟩
def ti38 : TI := ⟨true, 9, 88, [.int .i64 0, .int .i64 0, .nils, .int .i64 0, .int .i64 0, .int .i64 0, .int .i64 0, .int .i64 0, .int .i64 0], [(0, 1, false), (1, 1, false), (2, 1, false), (3, 2, true), (5, 2, true), (7, 1, false), (8, 1, false)], none, false, none⟩
def ti39 : TI := ⟨false, 1, 8, [.nilf], [], none, false, none⟩
def ti40 : TI := ⟨false, 1, 8, [.nilf], [], none, false, none⟩
def ti41 : TI := ⟨false, 1, 24, [.nils], [], some 38, false, none⟩
def ti42 : TI := ⟨false, 1, 8, [.nilf], [], none, false, none⟩
def ti43 : TI := ⟨false, 1, 8, [.nilf], [], none, false, none⟩
def ti44 : TI := ⟨false, 1, 8, [.nilf], [], none, false, none⟩
def ti45 : TI := ⟨false, 1, 8, [.nilf], [], none, false, none⟩
def ti46 : TI := ⟨false, 1, 8, [.nilf], [], none, false, none⟩
def ti47 : TI := ⟨true, 4, 32, [.int .i64 0, .int .i64 0, .int .i64 0, .int .i64 0], [(0, 2, true), (2, 2, true)], none, false, none⟩
def ti48 : TI := ⟨true, 4, 32, [.int .i64 0, .int .i64 0, .int .i64 0, .int .i64 0], [(0, 2, true), (2, 2, true)], none, false, none⟩
def ti49 : TI := ⟨true, 6, 64, [.int .i64 0, .nils, .int .i64 0, .int .i64 0, .int .i64 0, .int .i64 0], [(0, 1, false), (1, 1, false), (2, 4, true)], none, false, none⟩
def ti50 : TI := ⟨true, 6, 64, [.int .i64 0, .nils, .int .i64 0, .int .i64 0, .int .i64 0, .int .i64 0], [(0, 1, false), (1, 1, false), (2, 4, true)], none, false, none⟩
def ti51 : TI := ⟨false, 1, 8, [.nilf], [], none, false, none⟩
def ti52 : TI := ⟨false, 1, 8, [.nilf], [], none, false, none⟩
def ti53 : TI := ⟨false, 1, 24, [.nils], [], some 50, false, none⟩
def ti54 : TI := ⟨false, 1, 8, [.nilp], [], none, false, none⟩
def ti55 : TI := ⟨false, 1, 8, [.nilf], [], none, false, none⟩
def ti56 : TI := ⟨false, 1, 8, [.nilf], [], none, false, none⟩
def ti57 : TI := ⟨false, 1, 8, [.nilf], [], none, false, none⟩
def ti58 : TI := ⟨false, 1, 8, [.nilf], [], none, false, none⟩
def ti59 : TI := ⟨false, 1, 8, [.nilf], [], none, false, none⟩
def ti60 : TI := ⟨false, 1, 8, [.nilf], [], none, false, none⟩
def ti61 : TI := ⟨false, 1, 8, [.nilf], [], none, false, none⟩
def ti62 : TI := ⟨false, 1, 8, [.int .i64 0], [], none, false, some .i64⟩
def ti64 : TI := ⟨false, 1, 8, [.nilf], [], none, false, none⟩
def ti65 : TI := ⟨false, 1, 8, [.nilf], [], none, false, none⟩
def ti66 : TI := ⟨false, 1, 8, [.nilf], [], none, false, none⟩
def ti67 : TI := ⟨false, 1, 8, [.nilf], [], none, false, none⟩
def ti68 : TI := ⟨true, 3, 32, [.str ⟨#[]⟩, .int .i64 0, .bool false], [(0, 1, false), (1, 1, false), (2, 1, false)], none, false, none⟩
def ti69 : TI := ⟨true, 3, 32, [.str ⟨#[]⟩, .int .i64 0, .bool false], [(0, 1, false), (1, 1, false), (2, 1, false)], none, false, none⟩
def ti70 : TI := ⟨false, 1, 8, [.nilf], [], none, false, none⟩
def ti71 : TI := ⟨false, 1, 8, [.nilf], [], none, false, none⟩
def ti72 : TI := ⟨false, 1, 8, [.nilf], [], none, false, none⟩
def ti73 : TI := ⟨false, 1, 8, [.nilf], [], none, false, none⟩
def ti74 : TI := ⟨false, 1, 16, [.nilif], [], none, false, none⟩
def ti75 : TI := ⟨false, 1, 16, [.nilif], [], none, false, none⟩
def ti76 : TI := ⟨false, 1, 8, [.nilf], [], none, false, none⟩
def ti77 : TI := ⟨false, 1, 8, [.nilf], [], none, false, none⟩
def ti78 : TI := ⟨false, 1, 8, [.nilf], [], none, false, none⟩
def ti79 : TI := ⟨false, 1, 8, [.nilp], [], none, false, none⟩
def ti80 : TI := ⟨false, 1, 8, [.nilp], [], none, false, none⟩
def ti81 : TI := ⟨false, 1, 24, [.nils], [], some 102, false, none⟩
def ti82 : TI := ⟨true, 4, 64, [.nils, .nilp, .nilp, .nils], [(0, 1, false), (1, 1, false), (2, 1, false), (3, 1, false)], none, false, none⟩
def ti83 : TI := ⟨true, 4, 64, [.nils, .nilp, .nilp, .nils], [(0, 1, false), (1, 1, false), (2, 1, false), (3, 1, false)], none, false, none⟩
def ti84 : TI := ⟨false, 1, 8, [.nilf], [], none, false, none⟩
def ti85 : TI := ⟨false, 1, 8, [.nilf], [], none, false, none⟩
def ti86 : TI := ⟨false, 1, 8, [.nilf], [], none, false, none⟩
def ti87 : TI := ⟨false, 1, 8, [.nilf], [], none, false, none⟩
def ti88 : TI := ⟨false, 1, 8, [.nilf], [], none, false, none⟩
def ti90 : TI := ⟨false, 1, 8, [.nilf], [], none, false, none⟩
def ti91 : TI := ⟨false, 1, 8, [.nilf], [], none, false, none⟩
def ti92 : TI := ⟨false, 1, 8, [.nilf], [], none, false, none⟩
def ti93 : TI := ⟨false, 1, 24, [.nils], [], some 98, false, none⟩
def ti94 : TI := ⟨false, 1, 8, [.nilf], [], none, false, none⟩
def ti95 : TI := ⟨false, 1, 8, [.nilf], [], none, false, none⟩
def ti96 : TI := ⟨false, 1, 8, [.nilf], [], none, false, none⟩
def ti97 : TI := ⟨true, 5, 40, [.int .i64 0, .int .i64 0, .int .i64 0, .int .i64 0, .int .i64 0], [(0, 4, true), (4, 1, false)], none, false, none⟩
def ti98 : TI := ⟨true, 5, 40, [.int .i64 0, .int .i64 0, .int .i64 0, .int .i64 0, .int .i64 0], [(0, 4, true), (4, 1, false)], none, false, none⟩
def ti99 : TI := ⟨false, 1, 8, [.nilf], [], none, false, none⟩
def ti100 : TI := ⟨false, 1, 8, [.nilf], [], none, false, none⟩
def ti101 : TI := ⟨false, 1, 8, [.nilf], [], none, false, none⟩
def ti102 : TI := ⟨false, 1, 8, [.nilp], [], none, false, none⟩
def ti104 : TI := ⟨false, 1, 8, [.nilf], [], none, false, none⟩
def ti105 : TI := ⟨false, 1, 8, [.nilf], [], none, false, none⟩
def ti106 : TI := ⟨false, 1, 8, [.nilf], [], none, false, none⟩
def ti107 : TI := ⟨false, 1, 8, [.nilf], [], none, false, none⟩
def ti108 : TI := ⟨false, 1, 8, [.nilf], [], none, false, none⟩
def ti109 : TI := ⟨true, 2, 16, [.int .i64 0, .int .i64 0], [(0, 2, true)], none, false, none⟩
def ti110 : TI := ⟨true, 2, 16, [.int .i64 0, .int .i64 0], [(0, 2, true)], none, false, none⟩
def ti111 : TI := ⟨false, 1, 8, [.nilf], [], none, false, none⟩
def ti112 : TI := ⟨true, 4, 32, [.int .i64 0, .int .i64 0, .int .i64 0, .int .i64 0], [(0, 4, true)], none, false, none⟩
def ti113 : TI := ⟨true, 4, 32, [.int .i64 0, .int .i64 0, .int .i64 0, .int .i64 0], [(0, 4, true)], none, false, none⟩
def ti114 : TI := ⟨true, 1, 24, [.nils], [(0, 1, false)], none, false, none⟩
def ti115 : TI := ⟨true, 1, 24, [.nils], [(0, 1, false)], none, false, none⟩
def ti116 : TI := ⟨false, 1, 8, [.nilf], [], none, false, none⟩
def ti117 : TI := ⟨false, 1, 8, [.nilf], [], none, false, none⟩
def ti118 : TI := ⟨false, 1, 8, [.nilf], [], none, false, none⟩
def ti119 : TI := ⟨false, 1, 8, [.nilf], [], none, false, none⟩
def ti120 : TI := ⟨false, 1, 8, [.nilf], [], none, false, none⟩
def ti121 : TI := ⟨false, 1, 8, [.nilf], [], none, false, none⟩
def ti122 : TI := ⟨false, 1, 8, [.nilf], [], none, false, none⟩
def ti123 : TI := ⟨false, 1, 8, [.nilf], [], none, false, none⟩
def ti126 : TI := ⟨false, 1, 24, [.nils], [], some 130, false, none⟩
def ti127 : TI := ⟨false, 1, 8, [.nilf], [], none, false, none⟩
def ti128 : TI := ⟨false, 1, 8, [.nilf], [], none, false, none⟩
def ti129 : TI := ⟨true, 5, 48, [.int .i64 0, .int .i64 0, .int .i64 0, .int .i64 0, .str ⟨#[]⟩], [(0, 1, false), (1, 1, false), (2, 3, true)], none, false, none⟩
def ti130 : TI := ⟨true, 5, 48, [.int .i64 0, .int .i64 0, .int .i64 0, .int .i64 0, .str ⟨#[]⟩], [(0, 1, false), (1, 1, false), (2, 3, true)], none, false, none⟩
def ti131 : TI := ⟨false, 1, 8, [.nilf], [], none, false, none⟩
def ti132 : TI := ⟨false, 1, 8, [.nilf], [], none, false, none⟩
def ti133 : TI := ⟨false, 1, 8, [.nilf], [], none, false, none⟩
def ti134 : TI := ⟨false, 1, 8, [.int .u64 0], [], none, false, some .u64⟩
def ti135 : TI := ⟨false, 1, 8, [.nilf], [], none, false, none⟩
def ti136 : TI := ⟨false, 1, 8, [.nilp], [], none, false, none⟩
def ti137 : TI := ⟨true, 2, 16, [.nilp, .int .i64 0], [(0, 1, false), (1, 1, false)], none, false, none⟩
def ti138 : TI := ⟨true, 2, 16, [.nilp, .int .i64 0], [(0, 1, false), (1, 1, false)], none, false, none⟩
def ti139 : TI := ⟨false, 1, 8, [.nilp], [], none, false, none⟩
def ti140 : TI := ⟨true, 3, 24, [.nilp, .int .i64 0, .int .i64 0], [(0, 1, false), (1, 1, false), (2, 1, false)], none, false, none⟩
def ti141 : TI := ⟨true, 3, 24, [.nilp, .int .i64 0, .int .i64 0], [(0, 1, false), (1, 1, false), (2, 1, false)], none, false, none⟩
def ti142 : TI := ⟨false, 1, 8, [.nilf], [], none, false, none⟩
def ti143 : TI := ⟨false, 1, 8, [.nilf], [], none, false, none⟩
def ti144 : TI := ⟨true, 2, 32, [.nils, .int .i64 0], [(0, 1, false), (1, 1, false)], none, false, none⟩
def ti145 : TI := ⟨true, 2, 32, [.nils, .int .i64 0], [(0, 1, false), (1, 1, false)], none, false, none⟩
def ti146 : TI := ⟨false, 1, 8, [.nilf], [], none, false, none⟩
def ti147 : TI := ⟨false, 1, 24, [.nils], [], some 145, false, none⟩
def ti148 : TI := ⟨false, 1, 24, [.nils], [], some 139, false, none⟩
def ti149 : TI := ⟨true, 2, 48, [.nils, .nils], [(0, 1, false), (1, 1, false)], none, false, none⟩
def ti150 : TI := ⟨true, 2, 48, [.nils, .nils], [(0, 1, false), (1, 1, false)], none, false, none⟩
def ti151 : TI := ⟨false, 1, 8, [.nilf], [], none, false, none⟩
def ti153 : TI := ⟨false, 1, 8, [.nilf], [], none, false, none⟩
def ti154 : TI := ⟨false, 1, 8, [.nilf], [], none, false, none⟩
def ti155 : TI := ⟨true, 3, 24, [.int .i64 0, .int .i64 0, .int .i64 0], [(0, 2, true), (2, 1, false)], none, false, none⟩
def ti156 : TI := ⟨true, 3, 24, [.int .i64 0, .int .i64 0, .int .i64 0], [(0, 2, true), (2, 1, false)], none, false, none⟩
def ti157 : TI := ⟨false, 1, 8, [.nilf], [], none, false, none⟩
def ti158 : TI := ⟨false, 1, 8, [.nilf], [], none, false, none⟩
def ti159 : TI := ⟨false, 1, 8, [.nilf], [], none, false, none⟩
def ti160 : TI := ⟨false, 1, 8, [.nilf], [], none, false, none⟩
def ti161 : TI := ⟨false, 1, 8, [.nilp], [], none, false, none⟩
def ti162 : TI := ⟨true, 3, 24, [.nilp, .int .i64 0, .int .i64 0], [(0, 1, false), (1, 1, false), (2, 1, false)], none, false, none⟩
def ti163 : TI := ⟨true, 3, 24, [.nilp, .int .i64 0, .int .i64 0], [(0, 1, false), (1, 1, false), (2, 1, false)], none, false, none⟩
def ti164 : TI := ⟨false, 1, 8, [.nilf], [], none, false, none⟩
def ti165 : TI := ⟨false, 1, 8, [.nilf], [], none, false, none⟩
def ti166 : TI := ⟨false, 1, 8, [.nilf], [], none, false, none⟩
def ti167 : TI := ⟨false, 1, 24, [.nils], [], some 161, false, none⟩
def ti168 : TI := ⟨false, 1, 8, [.nilf], [], none, false, none⟩
def ti169 : TI := ⟨false, 1, 8, [.nilf], [], none, false, none⟩
def ti170 : TI := ⟨false, 1, 8, [.nilf], [], none, false, none⟩
def ti172 : TI := ⟨false, 1, 8, [.nilf], [], none, false, none⟩
def ti174 : TI := ⟨false, 1, 8, [.nilf], [], none, false, none⟩
def ti175 : TI := ⟨false, 1, 8, [.nilf], [], none, false, none⟩
def ti176 : TI := ⟨false, 1, 24, [.nils], [], some 9, false, none⟩
def ti177 : TI := ⟨false, 1, 8, [.nilf], [], none, false, none⟩
def ti178 : TI := ⟨false, 1, 8, [.nilf], [], none, false, none⟩
def ti179 : TI := ⟨false, 1, 8, [.nilf], [], none, false, none⟩
def ti180 : TI := ⟨false, 1, 8, [.nilf], [], none, false, none⟩
def ti181 : TI := ⟨true, 2, 40, [.nils, .str ⟨#[]⟩], [(0, 1, false), (1, 1, false)], none, false, none⟩
def ti182 : TI := ⟨true, 2, 40, [.nils, .str ⟨#[]⟩], [(0, 1, false), (1, 1, false)], none, false, none⟩
def ti183 : TI := ⟨false, 1, 8, [.nilf], [], none, false, none⟩
def ti184 : TI := ⟨false, 1, 8, [.nilf], [], none, false, none⟩
def ti185 : TI := ⟨false, 1, 8, [.nilf], [], none, false, none⟩
def ti186 : TI := ⟨false, 1, 8, [.nilf], [], none, false, none⟩
def ti187 : TI := ⟨false, 1, 8, [.nilf], [], none, false, none⟩
def ti188 : TI := ⟨false, 1, 8, [.nilf], [], none, false, none⟩
def ti189 : TI := ⟨false, 1, 8, [.nilf], [], none, false, none⟩
def ti191 : TI := ⟨false, 1, 8, [.nilf], [], none, false, none⟩
def ti192 : TI := ⟨false, 1, 8, [.nilf], [], none, false, none⟩
def ti193 : TI := ⟨false, 1, 8, [.nilf], [], none, false, none⟩
def ti194 : TI := ⟨false, 1, 8, [.int .i64 0], [], none, false, some .i64⟩
def ti196 : TI := ⟨false, 1, 8, [.nilf], [], none, false, none⟩
def ti197 : TI := ⟨false, 1, 8, [.nilf], [], none, false, none⟩
def ti198 : TI := ⟨false, 1, 8, [.nilf], [], none, false, none⟩
def ti199 : TI := ⟨false, 1, 8, [.nilf], [], none, false, none⟩
def ti200 : TI := ⟨false, 1, 8, [.nilf], [], none, false, none⟩
def ti201 : TI := ⟨false, 1, 8, [.nilf], [], none, false, none⟩
def ti202 : TI := ⟨false, 1, 4, [.int .u32 0], [], none, false, some .u32⟩
def ti203 : TI := ⟨false, 1, 8, [.nilf], [], none, false, none⟩
def ti204 : TI := ⟨false, 1, 8, [.int .u64 0], [], none, false, some .u64⟩
def ti205 : TI := ⟨false, 1, 8, [.nilf], [], none, false, none⟩
def ti206 : TI := ⟨false, 1, 8, [.nilf], [], none, false, none⟩
def ti207 : TI := ⟨false, 1, 8, [.nilf], [], none, false, none⟩
def ti208 : TI := ⟨false, 1, 8, [.nilf], [], none, false, none⟩
def ti209 : TI := ⟨false, 1, 8, [.nilf], [], none, false, none⟩
def ti210 : TI := ⟨false, 1, 8, [.nilf], [], none, false, none⟩
def ti211 : TI := ⟨false, 1, 8, [.nilf], [], none, false, none⟩
def ti212 : TI := ⟨false, 1, 8, [.nilf], [], none, false, none⟩
def ti213 : TI := ⟨false, 1, 8, [.nilf], [], none, false, none⟩
def ti214 : TI := ⟨true, 7, 56, [.int .i64 0, .int .i64 0, .int .i64 0, .nilp, .nilp, .int .i64 0, .int .i64 0], [(0, 3, true), (3, 1, false), (4, 1, false), (5, 1, false), (6, 1, false)], none, false, none⟩
def ti215 : TI := ⟨true, 7, 56, [.int .i64 0, .int .i64 0, .int .i64 0, .nilp, .nilp, .int .i64 0, .int .i64 0], [(0, 3, true), (3, 1, false), (4, 1, false), (5, 1, false), (6, 1, false)], none, false, none⟩
def ti216 : TI := ⟨false, 1, 8, [.nilf], [], none, false, none⟩
def ti218 : TI := ⟨false, 1, 8, [.nilf], [], none, false, none⟩
def ti219 : TI := ⟨false, 1, 8, [.nilf], [], none, false, none⟩
def ti220 : TI := ⟨false, 1, 8, [.nilf], [], none, false, none⟩
def ti221 : TI := ⟨true, 6, 80, [.int .i64 0, .int .i64 0, .int .i64 0, .int .i64 0, .nils, .nils], [(0, 4, true), (4, 1, false), (5, 1, false)], none, false, none⟩
def ti222 : TI := ⟨true, 6, 80, [.int .i64 0, .int .i64 0, .int .i64 0, .int .i64 0, .nils, .nils], [(0, 4, true), (4, 1, false), (5, 1, false)], none, false, none⟩
def ti223 : TI := ⟨false, 1, 8, [.nilf], [], none, false, none⟩
def ti224 : TI := ⟨false, 1, 8, [.nilf], [], none, false, none⟩
def ti225 : TI := ⟨false, 1, 8, [.nilf], [], none, false, none⟩
def ti226 : TI := ⟨false, 1, 8, [.nilf], [], none, false, none⟩
def ti227 : TI := ⟨false, 1, 8, [.nilf], [], none, false, none⟩
def ti228 : TI := ⟨false, 1, 8, [.nilf], [], none, false, none⟩
def ti229 : TI := ⟨false, 1, 8, [.nilf], [], none, false, none⟩
def ti230 : TI := ⟨false, 1, 8, [.nilf], [], none, false, none⟩
def ti231 : TI := ⟨false, 1, 8, [.nilf], [], none, false, none⟩
def ti232 : TI := ⟨false, 1, 8, [.int .u64 0], [], none, false, some .u64⟩
def ti233 : TI := ⟨false, 1, 8, [.nilf], [], none, false, none⟩
def ti234 : TI := ⟨false, 1, 8, [.nilf], [], none, false, none⟩
def ti235 : TI := ⟨false, 1, 8, [.nilf], [], none, false, none⟩
def ti236 : TI := ⟨false, 1, 8, [.nilp], [], none, false, none⟩
def ti237 : TI := ⟨false, 1, 8, [.nilf], [], none, false, none⟩
def ti238 : TI := ⟨false, 1, 8, [.nilf], [], none, false, none⟩
def ti239 : TI := ⟨false, 1, 8, [.nilf], [], none, false, none⟩
def ti240 : TI := ⟨false, 1, 8, [.nilf], [], none, false, none⟩
def ti241 : TI := ⟨false, 1, 8, [.nilf], [], none, false, none⟩
def ti242 : TI := ⟨false, 1, 8, [.nilf], [], none, false, none⟩
def ti243 : TI := ⟨false, 1, 8, [.nilf], [], none, false, none⟩
def ti244 : TI := ⟨false, 1, 8, [.nilf], [], none, false, none⟩
def ti245 : TI := ⟨false, 1, 8, [.nilf], [], none, false, none⟩
def ti246 : TI := ⟨false, 1, 8, [.nilf], [], none, false, none⟩
def ti247 : TI := ⟨false, 1, 8, [.nilf], [], none, false, none⟩
def ti248 : TI := ⟨false, 1, 8, [.nilf], [], none, false, none⟩
def ti249 : TI := ⟨false, 1, 8, [.nilf], [], none, false, none⟩
def ti250 : TI := ⟨false, 1, 8, [.nilf], [], none, false, none⟩
def ti251 : TI := ⟨false, 1, 8, [.nilf], [], none, false, none⟩
def ti252 : TI := ⟨false, 1, 8, [.nilf], [], none, false, none⟩
def ti253 : TI := ⟨false, 1, 8, [.nilf], [], none, false, none⟩
def ti254 : TI := ⟨false, 1, 8, [.nilp], [], none, false, none⟩
def ti255 : TI := ⟨false, 1, 8, [.nilf], [], none, false, none⟩
def ti256 : TI := ⟨false, 1, 8, [.nilf], [], none, false, none⟩
def ti257 : TI := ⟨false, 1, 8, [.nilf], [], none, false, none⟩
def ti258 : TI := ⟨false, 1, 8, [.nilf], [], none, false, none⟩
def ti259 : TI := ⟨false, 1, 8, [.nilf], [], none, false, none⟩
def ti260 : TI := ⟨false, 1, 8, [.nilf], [], none, false, none⟩
def ti261 : TI := ⟨false, 1, 8, [.nilf], [], none, false, none⟩
def ti262 : TI := ⟨false, 1, 8, [.nilf], [], none, false, none⟩
def ti263 : TI := ⟨false, 1, 8, [.nilf], [], none, false, none⟩
def ti264 : TI := ⟨false, 1, 8, [.nilf], [], none, false, none⟩
def ti265 : TI := ⟨false, 1, 8, [.nilf], [], none, false, none⟩
def ti266 : TI := ⟨true, 4, 40, [.nilp, .nilp, .nilp, .str ⟨#[]⟩], [(0, 1, false), (1, 1, false), (2, 1, false), (3, 1, false)], none, false, none⟩
def ti267 : TI := ⟨true, 4, 40, [.nilp, .nilp, .nilp, .str ⟨#[]⟩], [(0, 1, false), (1, 1, false), (2, 1, false), (3, 1, false)], none, false, none⟩
def ti271 : TI := ⟨false, 1, 1, [.int .u8 0], [], none, false, some .u8⟩
def ti272 : TI := ⟨false, 1, 1, [.int .u8 0], [], none, false, some .u8⟩
def ti273 : TI := ⟨false, 1, 8, [.nilf], [], none, false, none⟩
def ti274 : TI := ⟨false, 1, 8, [.nilp], [], none, false, none⟩
def ti275 : TI := ⟨false, 1, 4, [.int .i32 0], [], none, false, some .i32⟩
def ti276 : TI := ⟨false, 1, 4, [.int .i32 0], [], none, false, some .i32⟩
def ti277 : TI := ⟨true, 11, 48, [.int .u64 0, .int .u64 0, .int .u32 0, .int .u8 0, .int .u8 0, .int .u8 0, .int .u8 0, .nilf, .nilp, .int .i32 0, .int .i32 0], [(0, 1, false), (1, 1, false), (2, 1, false), (3, 1, false), (4, 1, false), (5, 1, false), (6, 1, false), (7, 1, false), (8, 1, false), (9, 1, false), (10, 1, false)], none, false, none⟩
def ti278 : TI := ⟨true, 11, 48, [.int .u64 0, .int .u64 0, .int .u32 0, .int .u8 0, .int .u8 0, .int .u8 0, .int .u8 0, .nilf, .nilp, .int .i32 0, .int .i32 0], [(0, 1, false), (1, 1, false), (2, 1, false), (3, 1, false), (4, 1, false), (5, 1, false), (6, 1, false), (7, 1, false), (8, 1, false), (9, 1, false), (10, 1, false)], none, false, none⟩
def ti279 : TI := ⟨false, 1, 8, [.nilf], [], none, false, none⟩
def ti280 : TI := ⟨false, 1, 8, [.nilf], [], none, false, none⟩
def ti281 : TI := ⟨false, 1, 8, [.nilf], [], none, false, none⟩
def ti282 : TI := ⟨false, 1, 8, [.nilf], [], none, false, none⟩
def ti283 : TI := ⟨false, 1, 8, [.nilf], [], none, false, none⟩
def ti284 : TI := ⟨false, 1, 8, [.nilf], [], none, false, none⟩
def ti285 : TI := ⟨false, 1, 8, [.nilf], [], none, false, none⟩
def ti286 : TI := ⟨false, 1, 8, [.nilf], [], none, false, none⟩
def ti287 : TI := ⟨false, 1, 8, [.nilf], [], none, false, none⟩
def ti288 : TI := ⟨false, 1, 8, [.nilf], [], none, false, none⟩
def ti289 : TI := ⟨false, 1, 8, [.nilf], [], none, false, none⟩
def ti290 : TI := ⟨false, 1, 8, [.nilf], [], none, false, none⟩
def ti291 : TI := ⟨false, 1, 8, [.nilf], [], none, false, none⟩
def ti292 : TI := ⟨false, 1, 8, [.nilf], [], none, false, none⟩
def ti293 : TI := ⟨false, 1, 8, [.nilf], [], none, false, none⟩
def ti294 : TI := ⟨false, 1, 8, [.nilp], [], none, false, none⟩
def tp0 (t : Nat) : Option TI := (bif Nat.blt t 16 then (bif Nat.blt t 8 then (bif Nat.blt t 4 then (bif Nat.blt t 2 then (bif Nat.blt t 1 then none else some ti1) else (bif Nat.blt t 3 then some ti2 else some ti3)) else (bif Nat.blt t 6 then (bif Nat.blt t 5 then some ti4 else some ti5) else (bif Nat.blt t 7 then some ti6 else some ti7))) else (bif Nat.blt t 12 then (bif Nat.blt t 10 then (bif Nat.blt t 9 then some ti8 else some ti9) else (bif Nat.blt t 11 then some ti10 else some ti11)) else (bif Nat.blt t 14 then (bif Nat.blt t 13 then some ti12 else some ti13) else (bif Nat.blt t 15 then some ti14 else some ti15)))) else (bif Nat.blt t 24 then (bif Nat.blt t 20 then (bif Nat.blt t 18 then (bif Nat.blt t 17 then some ti16 else some ti17) else (bif Nat.blt t 19 then some ti18 else some ti19)) else (bif Nat.blt t 22 then (bif Nat.blt t 21 then some ti20 else some ti21) else (bif Nat.blt t 23 then some ti22 else some ti23))) else (bif Nat.blt t 28 then (bif Nat.blt t 26 then (bif Nat.blt t 25 then some ti24 else some ti25) else (bif Nat.blt t 27 then some ti26 else some ti27)) else (bif Nat.blt t 30 then (bif Nat.blt t 29 then some ti28 else some ti29) else (bif Nat.blt t 31 then some ti30 else some ti31)))))
def tp1 (t : Nat) : Option TI := (bif Nat.blt t 48 then (bif Nat.blt t 40 then (bif Nat.blt t 36 then (bif Nat.blt t 34 then (bif Nat.blt t 33 then some ti32 else some ti33) else (bif Nat.blt t 35 then some ti34 else some ti35)) else (bif Nat.blt t 38 then (bif Nat.blt t 37 then some ti36 else some ti37) else (bif Nat.blt t 39 then some ti38 else some ti39))) else (bif Nat.blt t 44 then (bif Nat.blt t 42 then (bif Nat.blt t 41 then some ti40 else some ti41) else (bif Nat.blt t 43 then some ti42 else some ti43)) else (bif Nat.blt t 46 then (bif Nat.blt t 45 then some ti44 else some ti45) else (bif Nat.blt t 47 then some ti46 else some ti47)))) else (bif Nat.blt t 56 then (bif Nat.blt t 52 then (bif Nat.blt t 50 then (bif Nat.blt t 49 then some ti48 else some ti49) else (bif Nat.blt t 51 then some ti50 else some ti51)) else (bif Nat.blt t 54 then (bif Nat.blt t 53 then some ti52 else some ti53) else (bif Nat.blt t 55 then some ti54 else some ti55))) else (bif Nat.blt t 60 then (bif Nat.blt t 58 then (bif Nat.blt t 57 then some ti56 else some ti57) else (bif Nat.blt t 59 then some ti58 else some ti59)) else (bif Nat.blt t 62 then (bif Nat.blt t 61 then some ti60 else some ti61) else (bif Nat.blt t 63 then some ti62 else none)))))
def tp2 (t : Nat) : Option TI := (bif Nat.blt t 80 then (bif Nat.blt t 72 then (bif Nat.blt t 68 then (bif Nat.blt t 66 then (bif Nat.blt t 65 then some ti64 else some ti65) else (bif Nat.blt t 67 then some ti66 else some ti67)) else (bif Nat.blt t 70 then (bif Nat.blt t 69 then some ti68 else some ti69) else (bif Nat.blt t 71 then some ti70 else some ti71))) else (bif Nat.blt t 76 then (bif Nat.blt t 74 then (bif Nat.blt t 73 then some ti72 else some ti73) else (bif Nat.blt t 75 then some ti74 else some ti75)) else (bif Nat.blt t 78 then (bif Nat.blt t 77 then some ti76 else some ti77) else (bif Nat.blt t 79 then some ti78 else some ti79)))) else (bif Nat.blt t 88 then (bif Nat.blt t 84 then (bif Nat.blt t 82 then (bif Nat.blt t 81 then some ti80 else some ti81) else (bif Nat.blt t 83 then some ti82 else some ti83)) else (bif Nat.blt t 86 then (bif Nat.blt t 85 then some ti84 else some ti85) else (bif Nat.blt t 87 then some ti86 else some ti87))) else (bif Nat.blt t 92 then (bif Nat.blt t 90 then (bif Nat.blt t 89 then some ti88 else none) else (bif Nat.blt t 91 then some ti90 else some ti91)) else (bif Nat.blt t 94 then (bif Nat.blt t 93 then some ti92 else some ti93) else (bif Nat.blt t 95 then some ti94 else some ti95)))))
def tp3 (t : Nat) : Option TI := (bif Nat.blt t 112 then (bif Nat.blt t 104 then (bif Nat.blt t 100 then (bif Nat.blt t 98 then (bif Nat.blt t 97 then some ti96 else some ti97) else (bif Nat.blt t 99 then some ti98 else some ti99)) else (bif Nat.blt t 102 then (bif Nat.blt t 101 then some ti100 else some ti101) else (bif Nat.blt t 103 then some ti102 else none))) else (bif Nat.blt t 108 then (bif Nat.blt t 106 then (bif Nat.blt t 105 then some ti104 else some ti105) else (bif Nat.blt t 107 then some ti106 else some ti107)) else (bif Nat.blt t 110 then (bif Nat.blt t 109 then some ti108 else some ti109) else (bif Nat.blt t 111 then some ti110 else some ti111)))) else (bif Nat.blt t 120 then (bif Nat.blt t 116 then (bif Nat.blt t 114 then (bif Nat.blt t 113 then some ti112 else some ti113) else (bif Nat.blt t 115 then some ti114 else some ti115)) else (bif Nat.blt t 118 then (bif Nat.blt t 117 then some ti116 else some ti117) else (bif Nat.blt t 119 then some ti118 else some ti119))) else (bif Nat.blt t 124 then (bif Nat.blt t 122 then (bif Nat.blt t 121 then some ti120 else some ti121) else (bif Nat.blt t 123 then some ti122 else some ti123)) else (bif Nat.blt t 126 then none else (bif Nat.blt t 127 then some ti126 else some ti127)))))
def tp4 (t : Nat) : Option TI := (bif Nat.blt t 144 then (bif Nat.blt t 136 then (bif Nat.blt t 132 then (bif Nat.blt t 130 then (bif Nat.blt t 129 then some ti128 else some ti129) else (bif Nat.blt t 131 then some ti130 else some ti131)) else (bif Nat.blt t 134 then (bif Nat.blt t 133 then some ti132 else some ti133) else (bif Nat.blt t 135 then some ti134 else some ti135))) else (bif Nat.blt t 140 then (bif Nat.blt t 138 then (bif Nat.blt t 137 then some ti136 else some ti137) else (bif Nat.blt t 139 then some ti138 else some ti139)) else (bif Nat.blt t 142 then (bif Nat.blt t 141 then some ti140 else some ti141) else (bif Nat.blt t 143 then some ti142 else some ti143)))) else (bif Nat.blt t 152 then (bif Nat.blt t 148 then (bif Nat.blt t 146 then (bif Nat.blt t 145 then some ti144 else some ti145) else (bif Nat.blt t 147 then some ti146 else some ti147)) else (bif Nat.blt t 150 then (bif Nat.blt t 149 then some ti148 else some ti149) else (bif Nat.blt t 151 then some ti150 else some ti151))) else (bif Nat.blt t 156 then (bif Nat.blt t 154 then (bif Nat.blt t 153 then none else some ti153) else (bif Nat.blt t 155 then some ti154 else some ti155)) else (bif Nat.blt t 158 then (bif Nat.blt t 157 then some ti156 else some ti157) else (bif Nat.blt t 159 then some ti158 else some ti159)))))
def tp5 (t : Nat) : Option TI := (bif Nat.blt t 176 then (bif Nat.blt t 168 then (bif Nat.blt t 164 then (bif Nat.blt t 162 then (bif Nat.blt t 161 then some ti160 else some ti161) else (bif Nat.blt t 163 then some ti162 else some ti163)) else (bif Nat.blt t 166 then (bif Nat.blt t 165 then some ti164 else some ti165) else (bif Nat.blt t 167 then some ti166 else some ti167))) else (bif Nat.blt t 172 then (bif Nat.blt t 170 then (bif Nat.blt t 169 then some ti168 else some ti169) else (bif Nat.blt t 171 then some ti170 else none)) else (bif Nat.blt t 174 then (bif Nat.blt t 173 then some ti172 else none) else (bif Nat.blt t 175 then some ti174 else some ti175)))) else (bif Nat.blt t 184 then (bif Nat.blt t 180 then (bif Nat.blt t 178 then (bif Nat.blt t 177 then some ti176 else some ti177) else (bif Nat.blt t 179 then some ti178 else some ti179)) else (bif Nat.blt t 182 then (bif Nat.blt t 181 then some ti180 else some ti181) else (bif Nat.blt t 183 then some ti182 else some ti183))) else (bif Nat.blt t 188 then (bif Nat.blt t 186 then (bif Nat.blt t 185 then some ti184 else some ti185) else (bif Nat.blt t 187 then some ti186 else some ti187)) else (bif Nat.blt t 190 then (bif Nat.blt t 189 then some ti188 else some ti189) else (bif Nat.blt t 191 then none else some ti191)))))
def tp6 (t : Nat) : Option TI := (bif Nat.blt t 208 then (bif Nat.blt t 200 then (bif Nat.blt t 196 then (bif Nat.blt t 194 then (bif Nat.blt t 193 then some ti192 else some ti193) else (bif Nat.blt t 195 then some ti194 else none)) else (bif Nat.blt t 198 then (bif Nat.blt t 197 then some ti196 else some ti197) else (bif Nat.blt t 199 then some ti198 else some ti199))) else (bif Nat.blt t 204 then (bif Nat.blt t 202 then (bif Nat.blt t 201 then some ti200 else some ti201) else (bif Nat.blt t 203 then some ti202 else some ti203)) else (bif Nat.blt t 206 then (bif Nat.blt t 205 then some ti204 else some ti205) else (bif Nat.blt t 207 then some ti206 else some ti207)))) else (bif Nat.blt t 216 then (bif Nat.blt t 212 then (bif Nat.blt t 210 then (bif Nat.blt t 209 then some ti208 else some ti209) else (bif Nat.blt t 211 then some ti210 else some ti211)) else (bif Nat.blt t 214 then (bif Nat.blt t 213 then some ti212 else some ti213) else (bif Nat.blt t 215 then some ti214 else some ti215))) else (bif Nat.blt t 220 then (bif Nat.blt t 218 then (bif Nat.blt t 217 then some ti216 else none) else (bif Nat.blt t 219 then some ti218 else some ti219)) else (bif Nat.blt t 222 then (bif Nat.blt t 221 then some ti220 else some ti221) else (bif Nat.blt t 223 then some ti222 else some ti223)))))
def tp7 (t : Nat) : Option TI := (bif Nat.blt t 240 then (bif Nat.blt t 232 then (bif Nat.blt t 228 then (bif Nat.blt t 226 then (bif Nat.blt t 225 then some ti224 else some ti225) else (bif Nat.blt t 227 then some ti226 else some ti227)) else (bif Nat.blt t 230 then (bif Nat.blt t 229 then some ti228 else some ti229) else (bif Nat.blt t 231 then some ti230 else some ti231))) else (bif Nat.blt t 236 then (bif Nat.blt t 234 then (bif Nat.blt t 233 then some ti232 else some ti233) else (bif Nat.blt t 235 then some ti234 else some ti235)) else (bif Nat.blt t 238 then (bif Nat.blt t 237 then some ti236 else some ti237) else (bif Nat.blt t 239 then some ti238 else some ti239)))) else (bif Nat.blt t 248 then (bif Nat.blt t 244 then (bif Nat.blt t 242 then (bif Nat.blt t 241 then some ti240 else some ti241) else (bif Nat.blt t 243 then some ti242 else some ti243)) else (bif Nat.blt t 246 then (bif Nat.blt t 245 then some ti244 else some ti245) else (bif Nat.blt t 247 then some ti246 else some ti247))) else (bif Nat.blt t 252 then (bif Nat.blt t 250 then (bif Nat.blt t 249 then some ti248 else some ti249) else (bif Nat.blt t 251 then some ti250 else some ti251)) else (bif Nat.blt t 254 then (bif Nat.blt t 253 then some ti252 else some ti253) else (bif Nat.blt t 255 then some ti254 else some ti255)))))
def tp8 (t : Nat) : Option TI := (bif Nat.blt t 272 then (bif Nat.blt t 264 then (bif Nat.blt t 260 then (bif Nat.blt t 258 then (bif Nat.blt t 257 then some ti256 else some ti257) else (bif Nat.blt t 259 then some ti258 else some ti259)) else (bif Nat.blt t 262 then (bif Nat.blt t 261 then some ti260 else some ti261) else (bif Nat.blt t 263 then some ti262 else some ti263))) else (bif Nat.blt t 268 then (bif Nat.blt t 266 then (bif Nat.blt t 265 then some ti264 else some ti265) else (bif Nat.blt t 267 then some ti266 else some ti267)) else (bif Nat.blt t 270 then none else (bif Nat.blt t 271 then none else some ti271)))) else (bif Nat.blt t 280 then (bif Nat.blt t 276 then (bif Nat.blt t 274 then (bif Nat.blt t 273 then some ti272 else some ti273) else (bif Nat.blt t 275 then some ti274 else some ti275)) else (bif Nat.blt t 278 then (bif Nat.blt t 277 then some ti276 else some ti277) else (bif Nat.blt t 279 then some ti278 else some ti279))) else (bif Nat.blt t 284 then (bif Nat.blt t 282 then (bif Nat.blt t 281 then some ti280 else some ti281) else (bif Nat.blt t 283 then some ti282 else some ti283)) else (bif Nat.blt t 286 then (bif Nat.blt t 285 then some ti284 else some ti285) else (bif Nat.blt t 287 then some ti286 else some ti287)))))
def tp9 (t : Nat) : Option TI := (bif Nat.blt t 291 then (bif Nat.blt t 289 then some ti288 else (bif Nat.blt t 290 then some ti289 else some ti290)) else (bif Nat.blt t 293 then (bif Nat.blt t 292 then some ti291 else some ti292) else (bif Nat.blt t 294 then some ti293 else some ti294)))
def T : Tab := fun t => bif Nat.blt t 295 then (bif Nat.blt t 160 then (bif Nat.blt t 64 then (bif Nat.blt t 32 then tp0 t else tp1 t) else (bif Nat.blt t 96 then tp2 t else (bif Nat.blt t 128 then tp3 t else tp4 t))) else (bif Nat.blt t 224 then (bif Nat.blt t 192 then tp5 t else tp6 t) else (bif Nat.blt t 256 then tp7 t else (bif Nat.blt t 288 then tp8 t else tp9 t)))) else none
def okAt (P : Program) (t : Nat) : Bool := match T t with | some i => tiOk P t i | none => true
theorem okp0 : (List.range 32).all (fun k => okAt Tryz.prog (0 + k)) = true := by kernel_rfl
theorem okp1 : (List.range 32).all (fun k => okAt Tryz.prog (32 + k)) = true := by kernel_rfl
theorem okp2 : (List.range 32).all (fun k => okAt Tryz.prog (64 + k)) = true := by kernel_rfl
theorem okp3 : (List.range 32).all (fun k => okAt Tryz.prog (96 + k)) = true := by kernel_rfl
theorem okp4 : (List.range 32).all (fun k => okAt Tryz.prog (128 + k)) = true := by kernel_rfl
theorem okp5 : (List.range 32).all (fun k => okAt Tryz.prog (160 + k)) = true := by kernel_rfl
theorem okp6 : (List.range 32).all (fun k => okAt Tryz.prog (192 + k)) = true := by kernel_rfl
theorem okp7 : (List.range 32).all (fun k => okAt Tryz.prog (224 + k)) = true := by kernel_rfl
theorem okp8 : (List.range 32).all (fun k => okAt Tryz.prog (256 + k)) = true := by kernel_rfl
theorem okp9 : (List.range 7).all (fun k => okAt Tryz.prog (288 + k)) = true := by kernel_rfl
theorem T_ok : TOK Tryz.prog T := by
  intro t i h
  have hlt : t < 295 := by
    rcases Nat.lt_or_ge t 295 with h1 | h1
    · exact h1
    · have : Nat.blt t 295 = false := by rw [Bool.eq_false_iff]; intro hb; rw [Nat.blt_eq] at hb; omega
      simp only [T, this, cond_false] at h
      cases h
  have key : okAt Tryz.prog t = true := by
    have all : ∀ (n : Nat) (f : Nat → Bool), (List.range n).all f = true → ∀ k, k < n → f k = true := fun n f hf k hk => List.all_eq_true.1 hf k (List.mem_range.2 hk)
    have cases : (0 ≤ t ∧ t < 32) ∨ (32 ≤ t ∧ t < 64) ∨ (64 ≤ t ∧ t < 96) ∨ (96 ≤ t ∧ t < 128) ∨ (128 ≤ t ∧ t < 160) ∨ (160 ≤ t ∧ t < 192) ∨ (192 ≤ t ∧ t < 224) ∨ (224 ≤ t ∧ t < 256) ∨ (256 ≤ t ∧ t < 288) ∨ (288 ≤ t ∧ t < 295) := by omega
    rcases cases with ⟨h1, h2⟩ | ⟨h1, h2⟩ | ⟨h1, h2⟩ | ⟨h1, h2⟩ | ⟨h1, h2⟩ | ⟨h1, h2⟩ | ⟨h1, h2⟩ | ⟨h1, h2⟩ | ⟨h1, h2⟩ | ⟨h1, h2⟩

    · have := all _ _ okp0 (t - 0) (by omega); rwa [show 0 + (t - 0) = t from by omega] at this
    · have := all _ _ okp1 (t - 32) (by omega); rwa [show 32 + (t - 32) = t from by omega] at this
    · have := all _ _ okp2 (t - 64) (by omega); rwa [show 64 + (t - 64) = t from by omega] at this
    · have := all _ _ okp3 (t - 96) (by omega); rwa [show 96 + (t - 96) = t from by omega] at this
    · have := all _ _ okp4 (t - 128) (by omega); rwa [show 128 + (t - 128) = t from by omega] at this
    · have := all _ _ okp5 (t - 160) (by omega); rwa [show 160 + (t - 160) = t from by omega] at this
    · have := all _ _ okp6 (t - 192) (by omega); rwa [show 192 + (t - 192) = t from by omega] at this
    · have := all _ _ okp7 (t - 224) (by omega); rwa [show 224 + (t - 224) = t from by omega] at this
    · have := all _ _ okp8 (t - 256) (by omega); rwa [show 256 + (t - 256) = t from by omega] at this
    · have := all _ _ okp9 (t - 288) (by omega); rwa [show 288 + (t - 288) = t from by omega] at this
  simp only [okAt, h] at key
  exact key

theorem mixed : Tryz.prog.follows .mixedOrders = true := by kernel_rfl
end Go.Proofs.YtijjagkeaehhbaaGreat.Eng
