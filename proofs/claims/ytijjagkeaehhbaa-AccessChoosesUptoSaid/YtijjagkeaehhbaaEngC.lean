/- The engine's operations are sound: the simple ones. -/
import Derived.Test.YtijjagkeaehhbaaEngB
import Derived.Laws.Tables
import Derived.Laws.Cells
import Derived.Laws.Slices
set_option linter.unusedSimpArgs false
set_option linter.unusedVariables false
namespace Go.Proofs.Ytijjagkeaehhbaa.Eng
open Go.RowKit (Below)

theorem beq_ne {i d : Nat} (h : i ≠ d) : Nat.beq i d = false := by
  cases hb : Nat.beq i d
  · rfl
  · exact absurd (Nat.eq_of_beq_eq_true hb) h
theorem wp_value {P : Program} {o : Oper} {a : Act} {w w' : World} {v : Value} {next : Act → World → Prop} {Q : Exit → Act → World → Prop}
    (hr : (execOp a.eval o).run P w = .ok (.value v) w') (h : next (a.put o.dst v) w') : o.wp P a w next Q := by
  unfold Oper.wp; rw [hr]; exact h
theorem wp_skip' {P : Program} {o : Oper} {a : Act} {w w' : World} {next : Act → World → Prop} {Q : Exit → Act → World → Prop}
    (hr : (execOp a.eval o).run P w = .ok .skip w') (h : next (a.put o.dst undef) w') : o.wp P a w next Q := by
  unfold Oper.wp; rw [hr]; exact h

theorem getD_put {a : Act} {d : Nat} {v : Value} (hd : d < a.tmps.size) (i : Nat) : (a.put (some d) v).tmps.getD i undef = if i = d then v else a.tmps.getD i undef := by
  by_cases h : i = d
  · subst h; simp [Act.put, hd]
  · have h' : ¬ d = i := fun e => h e.symm
    simp only [Act.put, h, if_false, Array.getD_eq_getD_getElem?, Array.getElem?_setIfInBounds_ne h']

theorem SR.put {C : Ctx} {s : AS} {S σ a w} (hr : SR C s S σ a w) {d : Option Nat} {v : AV} {cv : Value} (hv : AVR w S σ s.nx v cv) {K : AS → Prop} (h : s.put d v K) :
    ∃ s', K s' ∧ SR C s' S σ (a.put d cv) w := by
  cases d with
  | none => exact ⟨s, h, hr⟩
  | some d =>
    unfold AS.put at h
    dsimp only at h
    split at h
    · rename_i hb
      have hlt : d < a.tmps.size := by rw [hr.size]; exact Nat.le_of_ble_eq_true hb
      refine ⟨_, h, ?_⟩
      constructor
      · simp [Act.put, hr.size]
      · exact hr.defers
      · intro i
        rw [getD_put hlt]
        by_cases e : i = d
        · subst e; simpa using hv
        · have : Nat.beq i d = false := beq_ne e
          simp only [this, cond_false, e, if_false]
          exact hr.fr i
      · exact hr.hp
      · exact hr.lt
      · exact hr.le
      · exact hr.keep
      · exact hr.nx
      · exact hr.hs
      · exact hr.up
    · exact h.elim

theorem cst_sound {w S v p} (h : cst v = some p) : PVR w S p v := by
  unfold cst at h
  split at h <;> first | (cases h; constructor; done) | skip
  · split at h
    · rename_i g x y hh
      cases h
      obtain ⟨h1, h2⟩ := hh
      obtain rfl : x = #[] := Array.eq_empty_of_size_eq_zero h1
      obtain rfl : y = #[] := Array.eq_empty_of_size_eq_zero h2
      exact .fn g
    · cases h
  · cases h

theorem SR.ev {C : Ctx} {s : AS} {S σ a w} (hr : SR C s S σ a w) (x : Operand) : AVR w S σ s.nx (s.ev x) (a.eval x) := by
  cases x with
  | tmp t => exact hr.fr t
  | const v =>
    simp only [AS.ev, Act.eval]
    cases h : cst v with
    | none => exact .one (.any _)
    | some p => exact .one (.lf (.pv (cst_sound h)))
  | func f => exact .one (.lf (.pv (.fn f)))
  | global g => exact .one (.any _)

/-- A value's cells are its cells. -/
theorem AVR.cells {w S σ n x v cs} (h : AVR w S σ n x v) (hc : x.cells = some cs) : LsR w S σ n cs v.cells := by
  cases h with
  | tup => simp [AV.cells] at hc
  | one h =>
    cases h with
    | any => simp [AV.cells] at hc
    | @lf y v h =>
      have hc' : cs = [y] := by cases y <;> simp [AV.cells] at hc <;> exact hc.symm
      subst hc'
      have h1 := h.one
      have hcs : v.cells = #[v] := by cases v <;> first | rfl | (simp [Value.oneCell'] at h1)
      rw [hcs]
      refine ⟨rfl, fun i z hz => ?_⟩
      match i with
      | 0 => simp only [List.getElem?_cons_zero, Option.some.injEq] at hz; subst hz; exact ⟨v, rfl, h⟩
      | i + 1 => simp at hz
    | agg h =>
      simp only [AV.cells, Option.some.injEq] at hc
      subst hc
      exact h

/-- Objects stand when the world grows beside them. -/
theorem ObjR.mono {w w' : World} {S S' : Nat → Prop} {σ σ' : Nat → Value} {n n' : Nat} {id : Nat} {o : AObj} (hk : ∀ b, S b → w'.heap[b]? = w.heap[b]?) (hS : ∀ b, S b → S' b)
    (hσ : ∀ i, i < n → σ' i = σ i) (hn : n ≤ n') (hid : id < n) (hb : ∀ b, blk (σ id) = some b → w'.heap[b]? = w.heap[b]?) (h : ObjR w S σ n id o) : ObjR w' S' σ' n' id o := by
  cases o with
  | box t cs =>
    obtain ⟨b, vs, h1, h2, h3⟩ := h
    exact ⟨b, vs, (hσ id hid).trans h1, (hb b (by rw [h1]; rfl)).trans h2, h3.mono hk hS hσ hn⟩
  | row t sz rows =>
    obtain ⟨h0, xs, h1, h2, h3⟩ := h
    refine ⟨h0, xs, ?_, h2, fun i j r p hi hj => ?_⟩
    · rw [hσ id hid]
      refine ⟨h1.1, ?_⟩
      rcases h1.2 with h4 | ⟨g, cap, cur, hv, hg, hh, r⟩
      · exact .inl h4
      · exact .inr ⟨g, cap, cur, hv, hg, (hb g (by rw [hv]; rfl)).trans hh, r⟩
    · obtain ⟨v, hv, hp⟩ := h3 i j r p hi hj
      exact ⟨v, hv, hp.mono hk hS⟩

theorem Keeps.refl (w : World) (B0 : Nat → Prop) : Keeps w w B0 := ⟨rfl, rfl, rfl, Nat.le_refl _, fun _ _ _ => rfl⟩

/-- A new object. -/
theorem SR.newBox {C : Ctx} {s : AS} {S σ a w} (hr : SR C s S σ a w) (t : Nat) {cs : List LV} {vs : Array Value} (h : LsR w S σ s.nx cs vs) :
    ∃ σ', SR C (s.new (.box t cs)) S σ' a (w.alloc (.cells vs t)) ∧ σ' s.nx = .pointer (some ⟨w.heap.size, 0, none⟩) ∧ ∀ i, i < s.nx → σ' i = σ i := by
  let σ' : Nat → Value := fun i => if i = s.nx then .pointer (some ⟨w.heap.size, 0, none⟩) else σ i
  have hσ : ∀ i, i < s.nx → σ' i = σ i := fun i hi => if_neg (by omega)
  have hσn : σ' s.nx = .pointer (some ⟨w.heap.size, 0, none⟩) := if_pos rfl
  have hold : ∀ b, b < w.heap.size → (w.alloc (.cells vs t)).heap[b]? = w.heap[b]? := fun b hb => heap_alloc_old w _ b hb
  have hk : ∀ b, S b → (w.alloc (.cells vs t)).heap[b]? = w.heap[b]? := fun b hb => hold b (hr.lt b hb)
  have hblk : ∀ id o b, s.hp id = some o → blk (σ id) = some b → b < w.heap.size := by
    intro id o b ho hb
    have := hr.hp.obj id o ho
    cases o with
    | box t cs =>
      obtain ⟨b', vs, h1, h2, _⟩ := this
      rw [h1] at hb
      simp only [blk, Option.some.injEq] at hb
      subst hb
      exact (Array.getElem?_eq_some_iff.1 h2).1
    | row t sz rows =>
      obtain ⟨_, xs, h1, _⟩ := this
      rcases h1.2 with ⟨h4, _⟩ | ⟨g, cap, cur, hv, hg, hh, r⟩
      · rw [h4] at hb; simp [blk] at hb
      · rw [hv] at hb
        simp only [blk, Option.some.injEq] at hb
        subst hb
        exact (Array.getElem?_eq_some_iff.1 hh).1
  refine ⟨σ', ⟨hr.size, hr.defers, fun i => (hr.fr i).mono hk (fun _ h => h) hσ (Nat.le_succ _), ⟨?_, ?_, ?_, ?_, ?_⟩, fun b hb => Nat.lt_of_lt_of_le (hr.lt b hb) (by simp), hr.le, ?_, Nat.le_succ_of_le hr.nx, ?_, hr.up⟩, hσn, hσ⟩
  · intro id o ho
    simp only [AS.new] at ho ⊢
    by_cases e : id = s.nx
    · omega
    · rw [show Nat.beq id s.nx = false from beq_ne e] at ho
      exact Nat.lt_succ_of_lt (hr.hp.lt id o ho)
  · intro id o ho
    simp only [AS.new] at ho ⊢
    by_cases e : id = s.nx
    · subst e
      simp only [Nat.beq_refl, cond_true, Option.some.injEq] at ho
      subst ho
      exact ⟨w.heap.size, vs, hσn, heap_alloc_new w _, h.mono hk (fun _ h => h) hσ (Nat.le_succ _)⟩
    · rw [show Nat.beq id s.nx = false from beq_ne e] at ho
      exact (hr.hp.obj id o ho).mono hk (fun _ h => h) hσ (Nat.le_succ _) (hr.hp.lt id o ho) (fun b hb => hold b (hblk id o b ho hb))
  · intro id o b ho hb
    simp only [AS.new] at ho
    by_cases e : id = s.nx
    · subst e
      rw [hσn] at hb
      simp only [blk, Option.some.injEq] at hb
      subst hb
      exact fun hS => absurd (hr.lt _ hS) (Nat.lt_irrefl _)
    · rw [show Nat.beq id s.nx = false from beq_ne e] at ho
      rw [hσ id (hr.hp.lt id o ho)] at hb
      exact hr.hp.notS id o b ho hb
  · intro id o b ho hb
    simp only [AS.new] at ho
    by_cases e : id = s.nx
    · subst e
      rw [hσn] at hb
      simp only [blk, Option.some.injEq] at hb
      subst hb
      exact .inr hr.keep.size
    · rw [show Nat.beq id s.nx = false from beq_ne e] at ho
      rw [hσ id (hr.hp.lt id o ho)] at hb
      exact hr.hp.own id o b ho hb
  · intro id id' o o' b ho ho' hb hb'
    simp only [AS.new] at ho ho'
    by_cases e : id = s.nx
    · subst e
      by_cases e' : id' = s.nx
      · exact e'.symm
      · rw [show Nat.beq id' s.nx = false from beq_ne e'] at ho'
        rw [hσn] at hb
        simp only [blk, Option.some.injEq] at hb
        subst hb
        rw [hσ id' (hr.hp.lt id' o' ho')] at hb'
        exact absurd (hblk id' o' _ ho' hb') (Nat.lt_irrefl _)
    · rw [show Nat.beq id s.nx = false from beq_ne e] at ho
      rw [hσ id (hr.hp.lt id o ho)] at hb
      by_cases e' : id' = s.nx
      · subst e'
        rw [hσn] at hb'
        simp only [blk, Option.some.injEq] at hb'
        subst hb'
        exact absurd (hblk id o _ ho hb) (Nat.lt_irrefl _)
      · rw [show Nat.beq id' s.nx = false from beq_ne e'] at ho'
        rw [hσ id' (hr.hp.lt id' o' ho')] at hb'
        exact hr.hp.inj id id' o o' b ho ho' hb hb'
  · exact ⟨hr.keep.os, hr.keep.tape, hr.keep.output, Nat.le_trans hr.keep.size (by simp), fun k hk hb => (hold k (Nat.lt_of_lt_of_le hk hr.keep.size)).trans (hr.keep.block k hk hb)⟩
  · intro id hid hc
    rw [hσ id (Nat.lt_of_lt_of_le hid hr.nx)]
    exact hr.hs id hid hc

end Go.Proofs.Ytijjagkeaehhbaa.Eng
