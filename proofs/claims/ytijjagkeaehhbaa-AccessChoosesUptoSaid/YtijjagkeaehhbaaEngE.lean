/- The engine's operations are sound: writes to objects. -/
import Derived.Test.YtijjagkeaehhbaaEngD
set_option linter.unusedSimpArgs false
set_option linter.unusedVariables false
namespace Go.Proofs.Ytijjagkeaehhbaa.Eng
open Go.RowKit (Below)

theorem blk_lt {w S σ n id o b} (h : ObjR w S σ n id o) (hb : blk (σ id) = some b) : b < w.heap.size := by
  cases o with
  | box t cs =>
    obtain ⟨b', vs, h1, h2, _⟩ := h
    rw [h1] at hb
    simp only [blk, Option.some.injEq] at hb
    subst hb
    exact (Array.getElem?_eq_some_iff.1 h2).1
  | row t sz rows =>
    obtain ⟨_, xs, h1, _⟩ := h
    rcases h1.2 with ⟨h4, _⟩ | ⟨g, cap, cur, hv, hg, hh, r⟩
    · rw [h4] at hb; simp [blk] at hb
    · rw [hv] at hb
      simp only [blk, Option.some.injEq] at hb
      subst hb
      exact (Array.getElem?_eq_some_iff.1 hh).1

/-- An object's own block is written. -/
theorem SR.write {C : Ctx} {s : AS} {S σ a w w'} (hr : SR C s S σ a w) {id : Nat} {o o' : AObj} (ho : s.hp id = some o) {b : Nat} (hb : blk (σ id) = some b)
    (hk : ∀ k, k ≠ b → w'.heap[k]? = w.heap[k]?) (hsz : w'.heap.size = w.heap.size) (hos : w'.os = w.os) (htp : w'.tape = w.tape) (hout : w'.output = w.output)
    (h' : ObjR w' S σ s.nx id o') : SR C (s.setO id o') S σ a w' := by
  have hS : ∀ k, S k → w'.heap[k]? = w.heap[k]? := fun k h => hk k (fun e => hr.hp.notS id o b ho hb (e ▸ h))
  have hne : ∀ id' q, id' ≠ id → s.hp id' = some q → ∀ k, blk (σ id') = some k → w'.heap[k]? = w.heap[k]? := fun id' q hne hq k hbk =>
    hk k (fun e => hne (hr.hp.inj id' id q o b hq ho (e ▸ hbk) hb))
  refine ⟨hr.size, hr.defers, fun i => (hr.fr i).mono hS (fun _ h => h) (fun _ _ => rfl) (Nat.le_refl _), ⟨?_, ?_, ?_, ?_, ?_⟩, fun k h => hsz ▸ hr.lt k h, hr.le, ?_, hr.nx, hr.hs, hr.up⟩
  · intro j q hq
    simp only [AS.setO] at hq
    by_cases e : j = id
    · subst e; exact hr.hp.lt j o ho
    · rw [beq_ne e] at hq; exact hr.hp.lt j q hq
  · intro j q hq
    simp only [AS.setO] at hq
    by_cases e : j = id
    · subst e
      rw [Nat.beq_refl] at hq
      simp only [cond_true, Option.some.injEq] at hq
      subst hq; exact h'
    · rw [beq_ne e] at hq
      exact (hr.hp.obj j q hq).mono hS (fun _ h => h) (fun _ _ => rfl) (Nat.le_refl _) (hr.hp.lt j q hq) (hne j q e hq)
  · intro j q k hq hbk
    simp only [AS.setO] at hq
    by_cases e : j = id
    · subst e; exact hr.hp.notS j o k ho hbk
    · rw [beq_ne e] at hq; exact hr.hp.notS j q k hq hbk
  · intro j q k hq hbk
    simp only [AS.setO] at hq
    by_cases e : j = id
    · subst e; exact hr.hp.own j o k ho hbk
    · rw [beq_ne e] at hq; exact hr.hp.own j q k hq hbk
  · intro j j' q q' k hq hq' hbk hbk'
    simp only [AS.setO] at hq hq'
    have ex : ∀ i q, (bif Nat.beq i id then some o' else s.hp i) = some q → ∃ q, s.hp i = some q := by
      intro i q h
      by_cases e : i = id
      · subst e; exact ⟨o, ho⟩
      · rw [beq_ne e] at h; exact ⟨q, h⟩
    obtain ⟨q1, h1⟩ := ex j q hq
    obtain ⟨q2, h2⟩ := ex j' q' hq'
    exact hr.hp.inj j j' q1 q2 k h1 h2 hbk hbk'
  · refine ⟨hos.trans hr.keep.os, htp.trans hr.keep.tape, hout.trans hr.keep.output, hsz ▸ hr.keep.size, fun k hlt hB => ?_⟩
    refine (hk k (fun e => ?_)).trans (hr.keep.block k hlt hB)
    subst e
    rcases hr.hp.own id o k ho hb with h | h
    · exact hB h
    · omega

theorem LVR.off {w w' : World} {S S' : Nat → Prop} {σ σ' : Nat → Value} {n : Nat} {id : Nat} (hk : ∀ b, S b → w'.heap[b]? = w.heap[b]?) (hS : ∀ b, S b → S' b) (hσ : ∀ i, i ≠ id → σ' i = σ i)
    {x : LV} {v : Value} (h : LVR w S σ n x v) (hx : x.refs id = false) : LVR w' S' σ' n x v := by
  have ne : ∀ i, Nat.beq i id = false → i ≠ id := fun i h e => by rw [e, Nat.beq_refl] at h; cases h
  cases h with
  | pv h => exact .pv (h.mono hk hS)
  | any v h => exact .any v h
  | ptr hi h => exact .ptr hi ((hσ _ (ne _ hx)).trans h)
  | rp hi h => exact .rp hi ((hσ _ (ne _ hx)).trans h)
  | @sl i hi h1 => rw [← hσ i (ne _ hx)]; exact .sl hi (by rw [hσ i (ne _ hx)]; exact h1)
  | @clo g ids hi =>
    have hne : ∀ i ∈ ids, σ' i = σ i := fun i hm => hσ i (fun e => by
      subst e
      simp [LV.refs] at hx
      exact hx hm)
    have : ids.map σ = ids.map σ' := List.map_congr_left fun i hm => (hne i hm).symm
    rw [this]
    exact .clo fun i hm => ⟨(hi i hm).1, let ⟨b, hb⟩ := (hi i hm).2; ⟨b, (hne i hm).trans hb⟩⟩
theorem LVR.poison {w w' : World} {S S' : Nat → Prop} {σ σ' : Nat → Value} {n : Nat} {id : Nat} (hk : ∀ b, S b → w'.heap[b]? = w.heap[b]?) (hS : ∀ b, S b → S' b) (hσ : ∀ i, i ≠ id → σ' i = σ i)
    {x : LV} {v : Value} (h : LVR w S σ n x v) : LVR w' S' σ' n (x.poison id) v := by
  unfold LV.poison
  cases hx : x.refs id with
  | true => exact .any v h.one
  | false => exact h.off hk hS hσ hx
theorem LsR.off {w w' : World} {S S' : Nat → Prop} {σ σ' : Nat → Value} {n : Nat} {id : Nat} (hk : ∀ b, S b → w'.heap[b]? = w.heap[b]?) (hS : ∀ b, S b → S' b) (hσ : ∀ i, i ≠ id → σ' i = σ i)
    {xs : List LV} {vs : Array Value} (h : LsR w S σ n xs vs) (hx : anyRefs id xs = false) : LsR w' S' σ' n xs vs := by
  have all : ∀ (l : List LV), anyRefs id l = false → ∀ (i : Nat) x, l[i]? = some x → x.refs id = false := by
    intro l
    induction l with
    | nil => intro _ i x h; simp at h
    | cons y r ih =>
      intro hl i x hx
      simp only [anyRefs, Bool.or_eq_false_iff] at hl
      match i with
      | 0 => simp only [List.getElem?_cons_zero, Option.some.injEq] at hx; subst hx; exact hl.1
      | i + 1 => exact ih hl.2 i x (by simpa using hx)
  exact ⟨h.1, fun i x hi => let ⟨v, hv, hh⟩ := h.2 i x hi; ⟨v, hv, hh.off hk hS hσ (all xs hx i x hi)⟩⟩
theorem RVR.poison {w w' : World} {S S' : Nat → Prop} {σ σ' : Nat → Value} {n : Nat} {id : Nat} (hk : ∀ b, S b → w'.heap[b]? = w.heap[b]?) (hS : ∀ b, S b → S' b) (hσ : ∀ i, i ≠ id → σ' i = σ i)
    {x : RV} {v : Value} (h : RVR w S σ n x v) : RVR w' S' σ' n (x.poison id) v := by
  cases h with
  | any v => exact .any v
  | lf h => exact .lf (h.poison hk hS hσ)
  | @agg xs vs h =>
    show RVR w' S' σ' n (bif anyRefs id xs then .lf .any else .agg xs) (.agg vs)
    cases hx : anyRefs id xs with
    | true => exact .any _
    | false => exact .agg (h.off hk hS hσ hx)
theorem AVR.poison {w w' : World} {S S' : Nat → Prop} {σ σ' : Nat → Value} {n : Nat} {id : Nat} (hk : ∀ b, S b → w'.heap[b]? = w.heap[b]?) (hS : ∀ b, S b → S' b) (hσ : ∀ i, i ≠ id → σ' i = σ i)
    {x : AV} {v : Value} (h : AVR w S σ n x v) : AVR w' S' σ' n (x.poison id) v := by
  cases h with
  | one h => exact .one (h.poison hk hS hσ)
  | @tup rs vs hn h =>
    refine .tup (by simpa using hn) fun i r hi => ?_
    rw [List.getElem?_map] at hi
    cases hr : rs[i]? with
    | none => simp [hr] at hi
    | some q =>
      simp only [hr, Option.map_some, Option.some.injEq] at hi
      subst hi
      obtain ⟨v, hv, hh⟩ := h i q hr
      exact ⟨v, hv, hh.poison hk hS hσ⟩
theorem LsR.poison {w w' : World} {S S' : Nat → Prop} {σ σ' : Nat → Value} {n : Nat} {id : Nat} (hk : ∀ b, S b → w'.heap[b]? = w.heap[b]?) (hS : ∀ b, S b → S' b) (hσ : ∀ i, i ≠ id → σ' i = σ i)
    {xs : List LV} {vs : Array Value} (h : LsR w S σ n xs vs) : LsR w' S' σ' n (xs.map (LV.poison id)) vs :=
  ⟨by simpa using h.1, fun i x hi => by
    rw [List.getElem?_map] at hi
    cases hr : xs[i]? with
    | none => simp [hr] at hi
    | some q =>
      simp only [hr, Option.map_some, Option.some.injEq] at hi
      subst hi
      obtain ⟨v, hv, hh⟩ := h.2 i q hr
      exact ⟨v, hv, hh.poison hk hS hσ⟩⟩

/-- A row gets a new handle (append): its old references are forgotten. -/
theorem SR.move {C : Ctx} {s : AS} {S σ a w w'} (hr : SR C s S σ a w) {id : Nat} {o o' : AObj} (ho : s.hp id = some o) (hid : s.n0 ≤ id ∨ s.c0 id = true) {v' : Value}
    (hk : ∀ k, k < w.heap.size → some k ≠ blk (σ id) → w'.heap[k]? = w.heap[k]?) (hsz : w.heap.size ≤ w'.heap.size) (hos : w'.os = w.os) (htp : w'.tape = w.tape) (hout : w'.output = w.output)
    (hv : ∀ b, blk v' = some b → blk (σ id) = some b ∨ w.heap.size ≤ b)
    (h' : ∀ σ' : Nat → Value, σ' id = v' → ObjR w' S σ' s.nx id o') :
    ∃ σ', σ' id = v' ∧ SR C ((s.poison id).setO id o') S σ' a w' := by
  let σ' : Nat → Value := fun i => if i = id then v' else σ i
  have hσ : ∀ i, i ≠ id → σ' i = σ i := fun i hi => if_neg hi
  have hσid : σ' id = v' := if_pos rfl
  have hS : ∀ k, S k → w'.heap[k]? = w.heap[k]? := fun k h => hk k (hr.lt k h) (fun e => hr.hp.notS id o k ho e.symm h)
  have hne : ∀ id' q, id' ≠ id → s.hp id' = some q → ∀ k, blk (σ id') = some k → w'.heap[k]? = w.heap[k]? := fun id' q hne hq k hbk =>
    hk k (blk_lt (hr.hp.obj id' q hq) hbk) (fun e => hne (hr.hp.inj id' id q o k hq ho hbk e.symm))
  have get : ∀ j q, ((s.poison id).setO id o').hp j = some q → (j = id ∧ q = o') ∨ (j ≠ id ∧ ∃ q0, s.hp j = some q0 ∧ q = q0.poison id) := by
    intro j q hq
    simp only [AS.setO, AS.poison] at hq
    by_cases e : j = id
    · subst e
      rw [Nat.beq_refl] at hq
      simp only [cond_true, Option.some.injEq] at hq
      exact .inl ⟨rfl, hq.symm⟩
    · rw [beq_ne e] at hq
      simp only [cond_false, Option.map_eq_some_iff] at hq
      obtain ⟨q0, h1, h2⟩ := hq
      exact .inr ⟨e, q0, h1, h2.symm⟩
  have bl : ∀ j, j ≠ id → blk (σ' j) = blk (σ j) := fun j hj => by rw [hσ j hj]
  refine ⟨σ', hσid, hr.size, hr.defers, fun i => (hr.fr i).poison hS (fun _ h => h) hσ, ⟨?_, ?_, ?_, ?_, ?_⟩, fun k h => Nat.lt_of_lt_of_le (hr.lt k h) hsz, hr.le, ?_, hr.nx, ?_, hr.up⟩
  · intro j q hq
    rcases get j q hq with ⟨rfl, _⟩ | ⟨_, q0, h1, _⟩
    · exact hr.hp.lt j o ho
    · exact hr.hp.lt j q0 h1
  · intro j q hq
    rcases get j q hq with ⟨rfl, rfl⟩ | ⟨hj, q0, h1, rfl⟩
    · exact h' σ' hσid
    · have h2 := hr.hp.obj j q0 h1
      cases q0 with
      | box t cs =>
        obtain ⟨b, vs, hb, hh, hl⟩ := h2
        exact ⟨b, vs, (hσ j hj).trans hb, (hne j _ hj h1 b (by rw [hb]; rfl)).trans hh, hl.poison hS (fun _ h => h) hσ⟩
      | row t sz rows =>
        obtain ⟨h0, xs, h3, h4, h5⟩ := h2
        refine ⟨h0, xs, ?_, h4, fun i k r p hi hj' => ?_⟩
        · rw [hσ j hj]
          refine ⟨h3.1, ?_⟩
          rcases h3.2 with h6 | ⟨g, cap, cur, hv', hg, hh, r⟩
          · exact .inl h6
          · exact .inr ⟨g, cap, cur, hv', hg, (hne j _ hj h1 g (by rw [hv']; rfl)).trans hh, r⟩
        · obtain ⟨v, hv', hp⟩ := h5 i k r p hi hj'
          exact ⟨v, hv', hp.mono hS (fun _ h => h)⟩
  · intro j q k hq hbk
    rcases get j q hq with ⟨rfl, rfl⟩ | ⟨hj, q0, h1, rfl⟩
    · rw [hσid] at hbk
      rcases hv k hbk with h | h
      · exact hr.hp.notS j o k ho h
      · exact fun hs => by have := hr.lt k hs; omega
    · rw [bl j hj] at hbk
      exact hr.hp.notS j q0 k h1 hbk
  · intro j q k hq hbk
    rcases get j q hq with ⟨rfl, rfl⟩ | ⟨hj, q0, h1, rfl⟩
    · rw [hσid] at hbk
      rcases hv k hbk with h | h
      · exact hr.hp.own j o k ho h
      · exact .inr (Nat.le_trans hr.keep.size h)
    · rw [bl j hj] at hbk
      exact hr.hp.own j q0 k h1 hbk
  · intro j j' q q' k hq hq' hbk hbk'
    rcases get j q hq with ⟨rfl, rfl⟩ | ⟨hj, q0, h1, rfl⟩
    · rcases get j' q' hq' with ⟨rfl, rfl⟩ | ⟨hj', q0', h1', rfl⟩
      · rfl
      · rw [hσid] at hbk
        rw [bl j' hj'] at hbk'
        rcases hv k hbk with h | h
        · exact hr.hp.inj _ j' o q0' k ho h1' h hbk'
        · have := blk_lt (hr.hp.obj j' q0' h1') hbk'; omega
    · rw [bl j hj] at hbk
      rcases get j' q' hq' with ⟨rfl, rfl⟩ | ⟨hj', q0', h1', rfl⟩
      · rw [hσid] at hbk'
        rcases hv k hbk' with h | h
        · exact hr.hp.inj j _ q0 o k h1 ho hbk h
        · have := blk_lt (hr.hp.obj j q0 h1) hbk; omega
      · rw [bl j' hj'] at hbk'
        exact hr.hp.inj j j' q0 q0' k h1 h1' hbk hbk'
  · refine ⟨hos.trans hr.keep.os, htp.trans hr.keep.tape, hout.trans hr.keep.output, Nat.le_trans hr.keep.size hsz, fun k hlt' hB => ?_⟩
    refine (hk k (Nat.lt_of_lt_of_le hlt' hr.keep.size) (fun e => ?_)).trans (hr.keep.block k hlt' hB)
    rcases hr.hp.own id o k ho e.symm with h | h
    · exact hB h
    · omega
  · intro j hj hc
    rw [hσ j (fun e => by
      subst e
      rcases hid with h | h
      · simp only [AS.setO, AS.poison] at hj; omega
      · simp only [AS.setO, AS.poison] at hc; rw [h] at hc; cases hc)]
    exact hr.hs j hj hc

end Go.Proofs.Ytijjagkeaehhbaa.Eng
