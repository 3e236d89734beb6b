/- The engine: a step is sound. -/
import Derived.Test.YtijjagkeaehhbaaEngM
set_option linter.unusedSimpArgs false
set_option linter.unusedVariables false
namespace Go.Proofs.Ytijjagkeaehhbaa.Eng
open Go.RowKit (Below)

def fresh? : Op → Bool
  | .box _ _ => true
  | .alloc _ => true
  | .buildSlice _ _ _ => true
  | _ => false

section
variable {P : Program} {T : Tab} {C : Ctx} {o : Oper} {s : AS} {nid : Nat} {v : AV} {u : Option (Nat × AObj)} {S : Nat → Prop} {σ : Nat → Value} {a : Act} {w : World}

theorem put_eff {d : Option Nat} (hd : ∀ k, d = some k → k < s.n) {v' : AV} (hv : v' = v) : s.put d v' (fun s' => s' = s.eff d v none) := by
  subst hv
  unfold AS.put
  split
  · rfl
  · rename_i k
    have : Nat.blt k s.n = true := by rw [Nat.blt_eq]; exact hd k rfl
    rw [this]
    rfl
theorem put_effO {d : Option Nat} (hd : ∀ k, d = some k → k < s.n) {id : Nat} {ob : AObj} {v' : AV} (hv : v' = v) : (s.setO id ob).put d v' (fun s' => s' = s.eff d v (some (id, ob))) := by
  subst hv
  unfold AS.put
  split
  · rfl
  · rename_i k
    have : Nat.blt k (s.setO id ob).n = true := by rw [Nat.blt_eq]; exact hd k rfl
    rw [this]
    rfl

theorem builtin_vc {b : Builtin} {ts : List Nat} {args : List AV} (hd : ∀ k, o.dst = some k → k < s.n) (h : builtinS T b ts args s.hp fun v' => v' = v) :
    builtinA T b ts args s fun v' s' => s'.put o.dst v' (fun s' => s' = s.eff o.dst v none) := by
  unfold builtinS at h
  split at h
  · split at h
    · rename_i t _ x i hi
      simp only [builtinA, hi]
      split at h
      · rename_i h1 h2; simp only [h1, h2]; exact put_eff hd h
      · rename_i h1 h2; simp only [h1, h2]; exact put_eff hd h
      · rename_i h1 h2; simp only [h1, h2]; exact put_eff hd h
      · rename_i h1 h2 h3; simp only [h1, h2]
        simp only [rdO] at h3
        simp only [h3]
        exact put_eff hd h
      · exact h.elim
    · exact h.elim
  · simp only [builtinA]
    split at h
    · rename_i hk; simp only [hk]; exact put_eff hd h
    · exact h.elim
  · simp only [builtinA]
    split at h
    · rename_i hk; simp only [hk]; exact put_eff hd h
    · exact h.elim
  · exact h.elim

theorem step_vc (hf : fresh? o.op = false) (hd : ∀ k, o.dst = some k → k < s.n) (h : stepOp P T o s.ev s.hp nid fun v' u' => v' = v ∧ u' = u) :
    vcOp P T o s fun s' => s' = s.eff o.dst v u := by
  obtain ⟨dst, op, type, pos, after, guard⟩ := o
  simp only at hd hf ⊢
  cases op <;> simp only [fresh?] at hf <;> (try cases hf) <;> simp only [stepOp] at h <;> simp only [vcOp]
  case move x => obtain ⟨h, rfl⟩ := h; exact put_eff hd h
  case assign x => obtain ⟨h, rfl⟩ := h; exact put_eff hd h
  case pick c x y =>
    split at h
    · rename_i t ht
      simp only [ht]
      exact ⟨fun e => by obtain ⟨h2, h3⟩ := h.1 e; subst h3; exact put_eff hd h2, fun e => by obtain ⟨h2, h3⟩ := h.2 e; subst h3; exact put_eff hd h2⟩
    · exact h.elim
  case binOp op t x y yt =>
    obtain ⟨v', ⟨h1, h2⟩, h3⟩ := binA_ex h
    subst h1 h2
    exact binA_mono (fun v'' e => put_eff hd e) h3
  case unOp op t x =>
    split at h
    · rename_i hx; obtain ⟨h, rfl⟩ := h; simp only [hx]; exact put_eff hd h
    · rename_i hx; obtain ⟨h, rfl⟩ := h; simp only [hx]; exact put_eff hd h
    · exact h.elim
  case nilCheck x =>
    split at h
    · rename_i hx; obtain ⟨h, rfl⟩ := h; simp only [hx]; exact put_eff hd h
    · rename_i hx; obtain ⟨h, rfl⟩ := h; simp only [hx]; exact put_eff hd h
    · rename_i hx; obtain ⟨h, rfl⟩ := h; simp only [hx]; exact put_eff hd h
    · rename_i h1 h2 h3
      split
      · rename_i hx; exact absurd hx (h1 _ _)
      · rename_i hx; exact absurd hx (h2 _ _ _ _)
      · rename_i hx; exact absurd hx (h3 _ _)
      · obtain ⟨r, h4, h5, rfl⟩ := h; exact ⟨r, h4, put_eff hd h5⟩
  case extract x k =>
    split at h
    · rename_i hx
      simp only [hx]
      split at h
      · rename_i hr; simp only [hr]; obtain ⟨h, rfl⟩ := h; exact put_eff hd h
      · exact h.elim
    · exact h.elim
  case load t p =>
    split at h
    · rename_i i hi
      simp only [hi]
      unfold loadA at h
      split at h
      · rename_i hx ho
        simp only [hx, rdO] at ho
        simp only [hx, ho]
        split at h
        · obtain ⟨h, rfl⟩ := h; rename_i hv; simp only [hv]; exact put_eff hd h
        · exact h.elim
      · rename_i hx ho
        simp only [hx, rdO] at ho
        simp only [hx, ho]
        obtain ⟨r, h1, h2, h⟩ := h
        refine ⟨r, h1, h2, ?_⟩
        split at h
        · obtain ⟨h, rfl⟩ := h; rename_i hv; simp only [hv]; exact put_eff hd h
        · exact h.elim
      · rename_i hx
        simp only [hx]
        split at h
        · obtain ⟨h, rfl⟩ := h; rename_i hv; simp only [hv]; exact put_eff hd h
        · exact h.elim
      · exact h.elim
    · exact h.elim
  case store t p x =>
    split at h
    · rename_i i xs hi hxs
      simp only [hi, hxs]
      split at h
      · rename_i hsz
        simp only [hsz]
        split at h
        · rename_i hx ho
          simp only [hx, rdO] at ho
          simp only [hx, ho]
          split at h
          · rename_i hb; obtain ⟨h, rfl⟩ := h; simp only [hb]; exact put_effO hd h
          · exact h.elim
        · exact h.elim
      · exact h.elim
    · exact h.elim
  case fieldAddr t p f =>
    split at h
    · rename_i i hi
      simp only [hi]
      split at h
      · rename_i fo hfo
        simp only [hfo]
        split at h
        · rename_i hx; obtain ⟨h, rfl⟩ := h; simp only [hx]; exact put_eff hd h
        · rename_i hx; obtain ⟨h, rfl⟩ := h; simp only [hx]; exact put_eff hd h
        · rename_i hx; obtain ⟨h, rfl⟩ := h; simp only [hx]; exact put_eff hd h
        · exact h.elim
      · exact h.elim
    · exact h.elim
  case field t x f =>
    split at h
    · rename_i i hi
      simp only [hi]
      split at h
      · rename_i h1 h2
        simp only [h1, h2]
        split at h
        · rename_i hv; obtain ⟨h, rfl⟩ := h; simp only [hv]; exact put_eff hd h
        · exact h.elim
      · exact h.elim
    · exact h.elim
  case indexAddr t x ix =>
    split at h
    · rename_i i hi
      simp only [hi]
      split at h
      · rename_i e he
        simp only [he]
        split at h
        · rename_i h1 h2 h3
          simp only [h1, h2, h3]
          obtain ⟨r, h4, h5, h6, h, rfl⟩ := h
          exact ⟨r, h4, h5, h6, put_eff hd h⟩
        · rename_i h1 h2 h3 h4
          simp only [h2, rdO] at h4
          simp only [h1, h2, h3, h4]
          obtain ⟨h5, h, rfl⟩ := h
          exact ⟨h5, put_eff hd h⟩
        · exact h.elim
      · exact h.elim
    · exact h.elim
  case index t x ix =>
    split at h
    · rename_i i hi
      simp only [hi]
      split at h
      · rename_i h1 h2 h3
        simp only [h1, h2, h3]
        obtain ⟨c, h4, h5, h, rfl⟩ := h
        exact ⟨c, h4, h5, put_eff hd h⟩
      · exact h.elim
    · exact h.elim
  case build t parts =>
    split at h
    · rename_i i hi
      simp only [hi]
      split at h
      · rename_i h1 h2
        simp only [h1, h2]
        obtain ⟨h, rfl⟩ := h; exact put_eff hd h
      · exact h.elim
    · rename_i hi
      simp only [hi]
      obtain ⟨r, h4, h5, rfl⟩ := h
      exact ⟨r, h4, put_eff hd h5⟩
  case call c =>
    split at h
    · rename_i b hc
      simp only [hc]
      have hu : u = none := by
        obtain ⟨v', ⟨_, h2⟩, _⟩ := builtinS_ex h
        exact h2.symm
      subst hu
      refine builtin_vc (o := ⟨dst, .call c, type, pos, after, guard⟩) hd ?_
      simpa using h
    · rename_i f hc
      simp only [hc]
      split at h
      · rename_i g hg
        simp only [hg]
        obtain ⟨r, h1, h2, h, rfl⟩ := h
        exact ⟨.call, callR_of_fun (R := fun v' s' => s'.put dst v' fun s' => s' = s.eff dst v none) h1 (List.isEmpty_iff.1 h2) (put_eff hd h)⟩
      · exact h.elim
    · exact h.elim
  case convert t t' x =>
    split at h
    · rename_i h1 h2 h3
      simp only [h1, h2, h3]
      split at h
      · rename_i hv; obtain ⟨h, rfl⟩ := h; simp only [hv]; exact put_eff hd h
      · exact h.elim
    · rename_i h1 h2 h3
      simp only [h1, h2, h3]
      split at h
      · rename_i hv; obtain ⟨h, rfl⟩ := h; simp only [hv]; exact put_eff hd h
      · exact h.elim
    · exact h.elim
  all_goals first
    | (have hh : False := h; exact hh.elim)
    | (obtain ⟨r, h4, h5, h6⟩ := h; subst h6; exact ⟨r, h4, put_eff hd h5⟩)

theorem fine_at {cv : Value} {w' : World} {σ' : Nat → Value} {ob : AObj} (hr : (execOp a.eval o).run P w = .ok (.value cv) w') (hs : SR C (s.setAt nid ob) S σ' a w') (hv : AVR w' S σ' s.nx v cv)
    (hd : ∀ k, o.dst = some k → k < s.n) : Fine P C o a w fun s' => s' = s.eff o.dst v (some (nid, ob)) :=
  fine_of hr hs hv (put_effO (s := s) hd rfl)

theorem ObjR.box_at {w : World} {S : Nat → Prop} {σ σ' : Nat → Value} {n id t : Nat} {cs : List LV} {vs : Array Value} (hl : LsR w S σ n cs vs) (hlt : ∀ b, S b → b < w.heap.size) (hσ : ∀ i, i ≠ id → σ' i = σ i) (hid : id ∉ lids cs)
    (he : σ' id = .pointer (some ⟨w.heap.size, 0, none⟩)) : ObjR (w.alloc (.cells vs t)) S σ' n id (.box t cs) := by
  refine ⟨w.heap.size, vs, he, heap_alloc_new w _, ?_⟩
  refine hl.away (fun b hb => heap_alloc_old w _ b (hlt b hb)) (fun _ h => h) fun k hk => ⟨?_, hσ k fun e => hid (e ▸ hk)⟩
  exact ids_lt (x := .agg cs) (.one (.agg hl)) k hk

theorem cells_ids {x : AV} {cs : List LV} (h : x.cells = some cs) : lids cs = x.ids := by
  unfold AV.cells at h
  split at h <;> simp only [Option.some.injEq, reduceCtorEq] at h <;> subst h <;> simp [AV.ids, RV.ids, lids]
theorem lids_pvs : ∀ l : List PV, lids (pvs l) = []
  | [] => rfl
  | p :: r => by simp [pvs, lids, LV.ids, lids_pvs r]

theorem step_fresh (hT : TOK P T) (hs : SR C s S σ a w) (hf : Fresh s nid) (hfr : fresh? o.op = true) (hd : ∀ k, o.dst = some k → k < s.n) (hx : ∀ x ∈ o.op.operands, nid ∉ (s.ev x).ids)
    (h : stepOp P T o s.ev s.hp nid fun v' u' => v' = v ∧ u' = u) : Fine P C o a w fun s' => s' = s.eff o.dst v u := by
  cases hop : o.op <;> simp only [hop, fresh?] at hfr <;> (try cases hfr) <;> simp only [stepOp, hop] at h
  case box t x =>
    split at h
    · rename_i i cs hi hc
      split at h
      · obtain ⟨rfl, rfl⟩ := h
        have hl := (hs.ev x).cells hc
        have hid : nid ∉ lids cs := by rw [cells_ids hc]; exact hx x (by simp [hop, Op.operands])
        rename_i hsz
        obtain ⟨σ', hs', hσ, _⟩ := hs.newAt hf (ob := .box t cs) (.pointer (some ⟨w.heap.size, 0, none⟩)) (w' := w.alloc (.cells _ t)) (by simp) (fun b hb => heap_alloc_old w _ b hb) rfl rfl rfl
          (fun b hb => by simp only [blk, Option.some.injEq] at hb; subst hb; simp) (fun σ' hσ' hne => ObjR.box_at hl hs.lt hne hid hσ')
        refine fine_at (cv := .pointer (some ⟨w.heap.size, 0, none⟩)) ?_ hs' (.one (.lf (.ptr hf.lt hσ))) hd
        simp only [execOp, hop]
        exact run_v (by simp [Instr.box, newVar, newRow])
      · exact h.elim
    · exact h.elim
  case alloc t =>
    split at h
    · rename_i i hi
      obtain ⟨rfl, rfl⟩ := h
      obtain ⟨j, d, z, ht⟩ := typeOk (hT t i hi)
      have hl := ht.zls w S σ s.nx
      obtain ⟨σ', hs', hσ, _⟩ := hs.newAt hf (ob := .box t (pvs i.zero)) (.pointer (some ⟨w.heap.size, 0, none⟩)) (w' := w.alloc (.cells _ t)) (by simp) (fun b hb => heap_alloc_old w _ b hb) rfl rfl rfl
        (fun b hb => by simp only [blk, Option.some.injEq] at hb; subst hb; simp) (fun σ' hσ' hne => ObjR.box_at hl hs.lt hne (by rw [lids_pvs]; simp) hσ')
      refine fine_at (cv := .pointer (some ⟨w.heap.size, 0, none⟩)) ?_ hs' (.one (.lf (.ptr hf.lt hσ))) hd
      simp only [execOp, hop]
      exact run_v (by simp [Instr.alloc, ht.run_zero, newVar, newRow])
    · exact h.elim
  case buildSlice t len parts =>
    split at h
    · rename_i i hi
      split at h
      · rename_i e he
        split at h
        · rename_i ie hie
          split at h
          · rename_i cs hsz hfill
            split at h
            · rename_i ps hps
              obtain ⟨own, h⟩ := h
              obtain ⟨j, d, z, ht⟩ := typeOk (hT t i hi)
              obtain ⟨j', d', z', hte⟩ := typeOk (hT e ie hie)
              have hcs : cs = pvs ps := pures_spec hps
              subst hcs
              cases own with
              | false =>
                obtain ⟨rfl, rfl⟩ := h
                exact fine_buildPure hop hs ht he hte (Nat.le_of_ble_eq_true hsz) hfill (put_eff hd rfl)
              | true =>
              obtain ⟨rfl, rfl⟩ := h
              obtain ⟨arr, hr, hob⟩ := run_buildSlice_of hop hs ht he hte (Nat.le_of_ble_eq_true hsz) hfill
              obtain ⟨σ', hs', hσ, _⟩ := hs.newAt hf (ob := .row e ie.size (chunk ie.size len ps)) (w' := w.alloc (.cells arr e)) (.slice (some ⟨w.heap.size, 0, none⟩) len len) (by simp) (fun b hb => heap_alloc_old w _ b hb) rfl rfl rfl
                (fun b hb => by simp only [blk, Option.some.injEq] at hb; subst hb; simp) (fun σ' hσ' _ => hob σ' nid s.nx hσ')
              refine fine_at (cv := σ' nid) ?_ hs' (.one (.lf (.sl hf.lt (by rw [hσ]; rfl)))) hd
              rw [hσ]
              exact hr
            · exact h.elim
          · exact h.elim
        · exact h.elim
      · exact h.elim
    · exact h.elim

theorem step_sound (hT : TOK P T) (hs : SR C s S σ a w) (hf : Fresh s nid) (hd : ∀ k, o.dst = some k → k < s.n) (hx : ∀ x ∈ o.op.operands, nid ∉ (s.ev x).ids)
    (h : stepOp P T o s.ev s.hp nid fun v' u' => v' = v ∧ u' = u) : Fine P C o a w fun s' => s' = s.eff o.dst v u := by
  cases hfr : fresh? o.op with
  | true => exact step_fresh hT hs hf hfr hd hx h
  | false => exact vcOp_sound hT hs (step_vc hfr hd h)

end
end Go.Proofs.Ytijjagkeaehhbaa.Eng
