/- The engine: pure calls; a new object under a given name; one operation as a step that may be told apart from its neighbours. -/
import Derived.Test.YtijjagkeaehhbaaEngK
set_option linter.unusedSimpArgs false
set_option linter.unusedVariables false
namespace Go.Proofs.Ytijjagkeaehhbaa.Eng
open Go.RowKit (Below)

def LV.ids : LV → List Nat
  | .ptr i _ => [i]
  | .rp i _ _ _ => [i]
  | .sl i => [i]
  | .clo _ l => l
  | _ => []
def lids : List LV → List Nat
  | [] => []
  | x :: r => x.ids ++ lids r
def RV.ids : RV → List Nat
  | .lf x => x.ids
  | .agg xs => lids xs
def rids : List RV → List Nat
  | [] => []
  | x :: r => x.ids ++ rids r
def AV.ids : AV → List Nat
  | .one r => r.ids
  | .tup rs => rids rs
def aids : List AV → List Nat
  | [] => []
  | x :: r => x.ids ++ aids r

theorem LVR.away {w w' : World} {S S' : Nat → Prop} {σ σ' : Nat → Value} {n n' : Nat} (hk : ∀ b, S b → w'.heap[b]? = w.heap[b]?) (hS : ∀ b, S b → S' b) {x : LV} {v : Value} (h : LVR w S σ n x v)
    (hσ : ∀ i ∈ x.ids, i < n' ∧ σ' i = σ i) : LVR w' S' σ' n' x v := by
  cases h with
  | pv h => exact .pv (h.mono hk hS)
  | any v h => exact .any v h
  | ptr hi h => obtain ⟨h1, h2⟩ := hσ _ (List.mem_singleton.2 rfl); exact .ptr h1 (h2.trans h)
  | rp hi h => obtain ⟨h1, h2⟩ := hσ _ (List.mem_singleton.2 rfl); exact .rp h1 (h2.trans h)
  | @sl i hi h1 => obtain ⟨h3, h2⟩ := hσ _ (List.mem_singleton.2 rfl); rw [← h2]; exact .sl h3 (by rw [h2]; exact h1)
  | @clo g ids hi =>
    have : ids.map σ = ids.map σ' := List.map_congr_left fun i hm => ((hσ i hm).2).symm
    rw [this]
    exact .clo fun i hm => ⟨(hσ i hm).1, let ⟨b, hb⟩ := (hi i hm).2; ⟨b, (hσ i hm).2.trans hb⟩⟩
theorem mem_lids {xs : List LV} {i : Nat} {x : LV} (hx : xs[i]? = some x) {k : Nat} (hk : k ∈ x.ids) : k ∈ lids xs := by
  induction xs generalizing i with
  | nil => simp at hx
  | cons y r ih =>
    match i with
    | 0 => simp only [List.getElem?_cons_zero, Option.some.injEq] at hx; subst hx; exact List.mem_append_left _ hk
    | i + 1 => exact List.mem_append_right _ (ih (by simpa using hx))
theorem mem_rids {xs : List RV} {i : Nat} {x : RV} (hx : xs[i]? = some x) {k : Nat} (hk : k ∈ x.ids) : k ∈ rids xs := by
  induction xs generalizing i with
  | nil => simp at hx
  | cons y r ih =>
    match i with
    | 0 => simp only [List.getElem?_cons_zero, Option.some.injEq] at hx; subst hx; exact List.mem_append_left _ hk
    | i + 1 => exact List.mem_append_right _ (ih (by simpa using hx))
theorem mem_aids {xs : List AV} {i : Nat} {x : AV} (hx : xs[i]? = some x) {k : Nat} (hk : k ∈ x.ids) : k ∈ aids xs := by
  induction xs generalizing i with
  | nil => simp at hx
  | cons y r ih =>
    match i with
    | 0 => simp only [List.getElem?_cons_zero, Option.some.injEq] at hx; subst hx; exact List.mem_append_left _ hk
    | i + 1 => exact List.mem_append_right _ (ih (by simpa using hx))
theorem LsR.away {w w' : World} {S S' : Nat → Prop} {σ σ' : Nat → Value} {n n' : Nat} (hk : ∀ b, S b → w'.heap[b]? = w.heap[b]?) (hS : ∀ b, S b → S' b) {xs : List LV} {vs : Array Value} (h : LsR w S σ n xs vs)
    (hσ : ∀ i ∈ lids xs, i < n' ∧ σ' i = σ i) : LsR w' S' σ' n' xs vs :=
  ⟨h.1, fun i x hi => let ⟨v, hv, hr⟩ := h.2 i x hi; ⟨v, hv, hr.away hk hS fun k hm => hσ k (mem_lids hi hm)⟩⟩
theorem RVR.away {w w' : World} {S S' : Nat → Prop} {σ σ' : Nat → Value} {n n' : Nat} (hk : ∀ b, S b → w'.heap[b]? = w.heap[b]?) (hS : ∀ b, S b → S' b) {x : RV} {v : Value} (h : RVR w S σ n x v)
    (hσ : ∀ i ∈ x.ids, i < n' ∧ σ' i = σ i) : RVR w' S' σ' n' x v := by
  cases h with
  | any v => exact .any v
  | lf h => exact .lf (h.away hk hS hσ)
  | agg h => exact .agg (h.away hk hS hσ)
theorem AVR.away {w w' : World} {S S' : Nat → Prop} {σ σ' : Nat → Value} {n n' : Nat} (hk : ∀ b, S b → w'.heap[b]? = w.heap[b]?) (hS : ∀ b, S b → S' b) {x : AV} {v : Value} (h : AVR w S σ n x v)
    (hσ : ∀ i ∈ x.ids, i < n' ∧ σ' i = σ i) : AVR w' S' σ' n' x v := by
  cases h with
  | one h => exact .one (h.away hk hS hσ)
  | tup hn h => exact .tup hn fun i r hr => let ⟨v, hv, hh⟩ := h i r hr; ⟨v, hv, hh.away hk hS fun k hm => hσ k (mem_rids hr hm)⟩

theorem ids_lt {w S σ n x v} (h : AVR w S σ n x v) : ∀ i ∈ x.ids, i < n := by
  have key : ∀ {x : LV} {v : Value}, LVR w S σ n x v → ∀ i ∈ x.ids, i < n := by
    intro x v hx i hi
    cases hx with
    | ptr h _ => simp [LV.ids] at hi; omega
    | rp h _ => simp [LV.ids] at hi; omega
    | sl h _ => simp [LV.ids] at hi; omega
    | clo h => exact (h i hi).1
    | _ => simp [LV.ids] at hi
  have keyl : ∀ {xs : List LV} {vs : Array Value}, LsR w S σ n xs vs → ∀ i ∈ lids xs, i < n := by
    intro xs vs hl
    have : ∀ l : List LV, (∀ (j : Nat) x, l[j]? = some x → ∀ i ∈ x.ids, i < n) → ∀ i ∈ lids l, i < n := by
      intro l
      induction l with
      | nil => intro _ i hi; cases hi
      | cons x r ih => intro hh i hi; exact (List.mem_append.1 hi).elim (fun h => hh 0 x rfl i h) (fun h => ih (fun j y hy => hh (j + 1) y (by simpa using hy)) i h)
    exact this xs fun j x hx => let ⟨v, _, h⟩ := hl.2 j x hx; key h
  have keyr : ∀ {x : RV} {v : Value}, RVR w S σ n x v → ∀ i ∈ x.ids, i < n := by
    intro x v hx
    cases hx with
    | any => intro i hi; cases hi
    | lf h => exact key h
    | agg h => exact keyl h
  cases h with
  | one h => exact keyr h
  | @tup rs vs hn h =>
    have : ∀ l : List RV, (∀ (j : Nat) x, l[j]? = some x → ∀ i ∈ x.ids, i < n) → ∀ i ∈ rids l, i < n := by
      intro l
      induction l with
      | nil => intro _ i hi; cases hi
      | cons x r ih => intro hh i hi; exact (List.mem_append.1 hi).elim (fun h => hh 0 x rfl i h) (fun h => ih (fun j y hy => hh (j + 1) y (by simpa using hy)) i h)
    exact this rs fun j x hx => let ⟨v, _, h⟩ := h j x hx; keyr h

/-- A function of values: what it is called with, what it gives; it writes nothing that was there. -/
def AFun (P : Program) (g : Nat) (args : List AV) (r : AV) : Prop :=
  Ent P g ∧ ∀ (w : World) (S : Nat → Prop), (∀ b, S b → b < w.heap.size) → ∀ vs : Array Value, vs.size = args.length → (∀ (i : Nat) (x : AV), args[i]? = some x → ∃ v, vs[i]? = some v ∧ AVR w S (fun _ => undef) 0 x v) →
    Calls P g vs w fun e w' => ∃ v, e = .returned v ∧ Below w.heap.size w w' ∧ AVR w' (fun b => S b ∨ (w.heap.size ≤ b ∧ b < w'.heap.size)) (fun _ => undef) 0 r v

theorem callR_of_fun {P : Program} {g : Nat} {args : List AV} {r : AV} (h : AFun P g args r) (hp : aids args = []) {s : AS} {R : AV → AS → Prop} (hR : R r s) : CallR P g args s R := by
  refine ⟨h.1, fun C S σ a w hs vs hn hv => ?_⟩
  refine (h.2 w S hs.lt vs hn (fun i x hi => ?_)).mono ?_
  · obtain ⟨v, h1, h2⟩ := hv i x hi
    exact ⟨v, h1, h2.away (fun _ _ => rfl) (fun _ h => h) fun k hm => by have := mem_aids hi hm; rw [hp] at this; cases this⟩
  · rintro e w' ⟨v, rfl, hb, hav⟩
    refine ⟨v, r, s, _, σ, hR, rfl, ?_, hs.grow hb⟩
    refine hav.away (fun _ _ => rfl) (fun _ h => h) fun k hm => ?_
    exact absurd (ids_lt hav k hm) (Nat.not_lt_zero _)

/-- A name that nothing bears yet. -/
structure Fresh (s : AS) (id : Nat) : Prop where
  hp : s.hp id = none
  fr : ∀ i, id ∉ (s.fr i).ids
  bx : ∀ j t cs, s.hp j = some (.box t cs) → id ∉ lids cs
  lt : id < s.nx
  ge : s.n0 ≤ id

def AS.setAt (s : AS) (id : Nat) (o : AObj) : AS := { s with hp := fun j => bif Nat.beq j id then some o else s.hp j }

theorem SR.newAt {C : Ctx} {s : AS} {S σ a w} (hr : SR C s S σ a w) {id : Nat} (hf : Fresh s id) {ob : AObj} {w' : World} (hv : Value) (hsz : w.heap.size < w'.heap.size) (hold : ∀ b, b < w.heap.size → w'.heap[b]? = w.heap[b]?) (hos : w'.os = w.os) (htp : w'.tape = w.tape) (hout : w'.output = w.output)
    (hb : ∀ b, blk hv = some b → w.heap.size ≤ b ∧ b < w'.heap.size) (ho : ∀ σ' : Nat → Value, σ' id = hv → (∀ i, i ≠ id → σ' i = σ i) → ObjR w' S σ' s.nx id ob) :
    ∃ σ', SR C (s.setAt id ob) S σ' a w' ∧ σ' id = hv ∧ ∀ i, i ≠ id → σ' i = σ i := by
  let σ' : Nat → Value := fun i => if i = id then hv else σ i
  have hσ : ∀ i, i ≠ id → σ' i = σ i := fun i hi => if_neg hi
  have hσn : σ' id = hv := if_pos rfl
  have hk : ∀ b, S b → w'.heap[b]? = w.heap[b]? := fun b hb => hold b (hr.lt b hb)
  have get : ∀ j q, (s.setAt id ob).hp j = some q → (j = id ∧ q = ob) ∨ (j ≠ id ∧ s.hp j = some q) := by
    intro j q hq
    simp only [AS.setAt] at hq
    by_cases e : j = id
    · subst e
      rw [Nat.beq_refl] at hq
      simp only [cond_true, Option.some.injEq] at hq
      exact .inl ⟨rfl, hq.symm⟩
    · rw [beq_ne e] at hq
      exact .inr ⟨e, hq⟩
  refine ⟨σ', ⟨hr.size, hr.defers, fun i => ?_, ⟨?_, ?_, ?_, ?_, ?_⟩, fun b hb => Nat.lt_trans (hr.lt b hb) hsz, hr.le, ?_, hr.nx, ?_, hr.up⟩, hσn, hσ⟩
  · exact (hr.fr i).away hk (fun _ h => h) fun k hm => ⟨ids_lt (hr.fr i) k hm, hσ k fun e => hf.fr i (e ▸ hm)⟩
  · intro j q hq
    rcases get j q hq with ⟨rfl, _⟩ | ⟨_, h1⟩
    · exact hf.lt
    · exact hr.hp.lt j q h1
  · intro j q hq
    rcases get j q hq with ⟨rfl, rfl⟩ | ⟨hj, h1⟩
    · exact ho σ' hσn hσ
    · have h2 := hr.hp.obj j q h1
      cases q with
      | box t cs =>
        obtain ⟨b, vs, h3, h4, h5⟩ := h2
        refine ⟨b, vs, (hσ j hj).trans h3, (hold b (Array.getElem?_eq_some_iff.1 h4).1).trans h4, h5.away hk (fun _ h => h) fun k hm => ⟨?_, hσ k fun e => hf.bx j t cs h1 (e ▸ hm)⟩⟩
        exact ids_lt (x := .agg cs) (.one (.agg h5)) k hm
      | row t sz rows =>
        obtain ⟨h0, xs, h3, h4, h5⟩ := h2
        refine ⟨h0, xs, ?_, h4, fun i k r p hi hj' => ?_⟩
        · rw [hσ j hj]
          refine ⟨h3.1, ?_⟩
          rcases h3.2 with h6 | ⟨g, cap, cur, hv', hg, hh, r⟩
          · exact .inl h6
          · exact .inr ⟨g, cap, cur, hv', hg, (hold g (Array.getElem?_eq_some_iff.1 hh).1).trans hh, r⟩
        · obtain ⟨v, hv', hp⟩ := h5 i k r p hi hj'
          exact ⟨v, hv', hp.mono hk (fun _ h => h)⟩
  · intro j q b hq hbk
    rcases get j q hq with ⟨rfl, rfl⟩ | ⟨hj, h1⟩
    · rw [hσn] at hbk
      exact fun hS => by have := hr.lt b hS; have := (hb b hbk).1; omega
    · rw [hσ j hj] at hbk
      exact hr.hp.notS j q b h1 hbk
  · intro j q b hq hbk
    rcases get j q hq with ⟨rfl, rfl⟩ | ⟨hj, h1⟩
    · rw [hσn] at hbk
      exact .inr (Nat.le_trans hr.keep.size (hb b hbk).1)
    · rw [hσ j hj] at hbk
      exact hr.hp.own j q b h1 hbk
  · intro j j' q q' b hq hq' hbk hbk'
    rcases get j q hq with ⟨rfl, rfl⟩ | ⟨hj, h1⟩
    · rcases get j' q' hq' with ⟨rfl, rfl⟩ | ⟨hj', h1'⟩
      · rfl
      · rw [hσn] at hbk
        rw [hσ j' hj'] at hbk'
        have := (hb b hbk).1
        have := blk_lt (hr.hp.obj j' q' h1') hbk'
        omega
    · rw [hσ j hj] at hbk
      rcases get j' q' hq' with ⟨rfl, rfl⟩ | ⟨hj', h1'⟩
      · rw [hσn] at hbk'
        have := (hb b hbk').1
        have := blk_lt (hr.hp.obj j q h1) hbk
        omega
      · rw [hσ j' hj'] at hbk'
        exact hr.hp.inj j j' q q' b h1 h1' hbk hbk'
  · exact ⟨hos.trans hr.keep.os, htp.trans hr.keep.tape, hout.trans hr.keep.output, Nat.le_trans hr.keep.size (Nat.le_of_lt hsz), fun k hlt hB => (hold k (Nat.lt_of_lt_of_le hlt hr.keep.size)).trans (hr.keep.block k hlt hB)⟩
  · intro j hj hc
    have : j ≠ id := fun e => by subst e; have := hf.ge; simp only [AS.setAt] at hj; omega
    rw [hσ j this]
    exact hr.hs j hj hc

end Go.Proofs.Ytijjagkeaehhbaa.Eng
