/- The engine's operations are sound: literals, new rows, append, len, and all together. -/
import Derived.Test.YtijjagkeaehhbaaEngH
import Derived.Maps.AppendAt
set_option linter.unusedSimpArgs false
set_option linter.unusedVariables false
namespace Go.Proofs.Ytijjagkeaehhbaa.Eng
open Go.RowKit (Below)

section
variable {P : Program} {T : Tab} {C : Ctx} {o : Oper} {s : AS} {K : AS → Prop} {S : Nat → Prop} {σ : Nat → Value} {a : Act} {w : World}

theorem fold_set (off : Nat) : ∀ (l : List Value) (k : Nat) (cells : Array Value), off + k + l.length ≤ cells.size →
    ((l.zipIdx k).foldl (fun cs p => cs.setIfInBounds (off + p.2) p.1) cells).toList = cells.toList.take (off + k) ++ l ++ cells.toList.drop (off + k + l.length)
  | [], k, cells, _ => by simp
  | v :: l, k, cells, h => by
    simp only [List.zipIdx_cons, List.foldl_cons]
    simp only [List.length_cons] at h
    rw [fold_set off l (k + 1) _ (by simp; omega)]
    have hk : off + k < cells.toList.length := by simp; omega
    simp only [Array.toList_setIfInBounds]
    have e1 : (cells.toList.set (off + k) v).take (off + (k + 1)) = cells.toList.take (off + k) ++ [v] := by
      rw [show off + (k + 1) = off + k + 1 from by omega, List.take_succ_eq_append_getElem (by simpa using hk), List.take_set_of_le (Nat.le_refl _)]
      simp
    have e2 : (cells.toList.set (off + k) v).drop (off + (k + 1) + l.length) = cells.toList.drop (off + k + (v :: l).length) := by
      rw [List.drop_set_of_lt (by omega)]
      congr 1
      simp; omega
    rw [e1, e2]
    simp

theorem fill_sound {w S σ n} (place : Nat → Option (Nat × Nat)) : ∀ (parts : List (Nat × AV)) (parts' : List (Nat × Value)) (cs cs' : List LV) (arr : Array Value), LsR w S σ n cs arr → parts'.length = parts.length →
    (∀ (i : Nat) k x, parts[i]? = some (k, x) → ∃ v, parts'[i]? = some (k, v) ∧ AVR w S σ n x v) → fillA place cs parts = some cs' → ∃ arr', Instr.fill place arr parts' = some arr' ∧ LsR w S σ n cs' arr'
  | [], [], cs, cs', arr, hl, _, _, h => by
    simp only [fillA, Option.some.injEq] at h
    subst h
    exact ⟨arr, rfl, hl⟩
  | (k, x) :: parts, (k', v) :: parts', cs, cs', arr, hl, hlen, hv, h => by
    obtain ⟨v0, h1, h2⟩ := hv 0 k x rfl
    simp only [List.getElem?_cons_zero, Option.some.injEq, Prod.mk.injEq] at h1
    obtain ⟨rfl, rfl⟩ := h1
    simp only [fillA] at h
    split at h
    · rename_i off size xs hp hc
      split at h
      · rename_i e1 e2
        have e1 := Nat.eq_of_beq_eq_true e1
        have e2 := Nat.le_of_ble_eq_true e2
        have hx := h2.cells hc
        have hs1 := hx.1
        have hs2 := hl.1
        have hfold : (v.cells.zipIdx.foldl (fun cs (c, j) => cs.setIfInBounds (off + j) c) arr) = (arr.toList.take off ++ v.cells.toList ++ arr.toList.drop (off + v.cells.size)).toArray := by
          apply Array.toList_inj.1
          have := fold_set off v.cells.toList 0 arr (by simp; omega)
          simp only [Nat.add_zero, Array.length_toList] at this
          rw [← this, ← Array.foldl_toList, Array.toList_zipIdx]
        obtain ⟨arr', h3, h4⟩ := fill_sound place parts parts' _ cs' _ (hl.splice hx (by omega)) (by simpa using hlen) (fun i k x hi => by simpa using hv (i + 1) k x (by simpa using hi)) h
        refine ⟨arr', ?_, h4⟩
        simp only [Instr.fill, hp]
        rw [if_neg (by simp; omega), hfold]
        exact h3
      · cases h
    · cases h
  | [], _ :: _, _, _, _, _, hlen, _, _ => by simp at hlen
  | _ :: _, [], _, _, _, _, hlen, _, _ => by simp at hlen

theorem parts_rel (hs : SR C s S σ a w) (ps : Array (Nat × Operand)) : ((ps.map fun (i, x) => (i, a.eval x)).toList.length = (ps.toList.map fun p => (p.1, s.ev p.2)).length) ∧
    ∀ (i : Nat) k x, (ps.toList.map fun p => (p.1, s.ev p.2))[i]? = some (k, x) → ∃ v, (ps.map fun (i, x) => (i, a.eval x)).toList[i]? = some (k, v) ∧ AVR w S σ s.nx x v := by
  refine ⟨by simp, fun i k x hi => ?_⟩
  rw [List.getElem?_map] at hi
  cases hq : ps.toList[i]? with
  | none => simp [hq] at hi
  | some q =>
    simp only [hq, Option.map_some, Option.some.injEq, Prod.mk.injEq] at hi
    obtain ⟨rfl, rfl⟩ := hi
    refine ⟨a.eval q.2, ?_, hs.ev q.2⟩
    rw [Array.toList_map, List.getElem?_map, hq]
    rfl

theorem mapM_zip : ∀ (fs : List Field) (fo : List (Nat × Nat × Bool)), fs.length = fo.length → (∀ (k : Nat) (o : Nat × Nat × Bool), fo[k]? = some o → ∃ (ft : Field) (q : TypeInfo), fs[k]? = some ft ∧ ft.offset = o.1 ∧ P.info? ft.type = some q ∧ q.size = o.2.1) →
    fs.mapM (fun f => (P.info? f.type).map fun i => (f.offset, i.size)) = some (fo.map fun o => (o.1, o.2.1))
  | [], [], _, _ => rfl
  | f :: fs, o :: fo, hl, h => by
    obtain ⟨ft, q, h1, h2, h3, h4⟩ := h 0 o rfl
    simp only [List.getElem?_cons_zero, Option.some.injEq] at h1
    subst h1
    have ih := mapM_zip fs fo (by simpa using hl) (fun k o ho => by simpa using h (k + 1) o (by simpa using ho))
    simp [List.mapM_cons, h3, ih, h2, h4]
  | [], _ :: _, hl, _ => by simp at hl
  | _ :: _, [], hl, _ => by simp at hl

theorem fine_build {t : Nat} {parts : Array (Nat × Operand)} (ho : o.op = .build t parts) (hs : SR C s S σ a w) {i : TI} {j d z} (ht : TypeOk P t i j d z) {cs : List LV}
    (hf : fillA (fun k => i.fo[k]?.map fun fo => (fo.1, fo.2.1)) (pvs i.zero) (parts.toList.map fun p => (p.1, s.ev p.2)) = some cs) (hstr : ∃ fs, d = .struct fs) (h : s.put o.dst (.agg cs) K) : Fine P C o a w K := by
  obtain ⟨fs, rfl⟩ := hstr
  obtain ⟨h1, h2⟩ := parts_rel hs parts
  obtain ⟨arr, h3, h4⟩ := fill_sound _ _ _ _ _ _ (ht.zls w S σ s.nx) h1 h2 hf
  refine fine_of (cv := .agg arr) ?_ hs (.one (.agg h4)) h
  simp only [execOp, ho]
  refine run_v (run_build w t _ arr ?_)
  have hlen : fs.toList.length = i.fo.length := by
    have h5 := ht.fs fs rfl i.fo.length
    have h6 := fun k (hk : k < i.fo.length) => ht.fs fs rfl k
    rw [List.getElem?_eq_none (Nat.le_refl _)] at h5
    have h7 : fs.size ≤ i.fo.length := by
      rcases Nat.lt_or_ge i.fo.length fs.size with h | h
      · rw [Array.getElem?_eq_getElem h] at h5; cases h5
      · exact h
    rcases Nat.eq_or_lt_of_le h7 with h8 | h8
    · simpa using h8
    · have h9 := h6 fs.size h8
      rw [Array.getElem?_eq_none (Nat.le_refl _), List.getElem?_eq_getElem h8] at h9
      cases h9
  have hm := mapM_zip (P := P) fs.toList i.fo hlen (fun k o hk => by
    obtain ⟨fs', ft, q, e, hd, hft, h5, h6, _, h7, _, _⟩ := ht.fo k o hk
    injection hd with hd
    subst hd
    exact ⟨ft, q, by simpa using hft, h5, h6, h7⟩)
  unfold Program.built
  simp only [ht.info, ht.und, ht.zero, hm]
  have hfn : ((i.fo.map fun o => (o.1, o.2.1)).toArray[·]?) = fun k : Nat => i.fo[k]?.map fun fo => (fo.1, fo.2.1) := by
    funext k
    simp
  rw [hfn]
  exact h3

/-- A new object, whatever it is. -/
theorem SR.newObj (hr : SR C s S σ a w) {ob : AObj} {w' : World} (hv : Value) (hsz : w.heap.size < w'.heap.size) (hold : ∀ b, b < w.heap.size → w'.heap[b]? = w.heap[b]?) (hos : w'.os = w.os) (htp : w'.tape = w.tape) (hout : w'.output = w.output)
    (hb : ∀ b, blk hv = some b → w.heap.size ≤ b ∧ b < w'.heap.size) (ho : ∀ σ' : Nat → Value, σ' s.nx = hv → (∀ i, i < s.nx → σ' i = σ i) → ObjR w' S σ' (s.nx + 1) s.nx ob) :
    ∃ σ', SR C (s.new ob) S σ' a w' ∧ σ' s.nx = hv ∧ ∀ i, i < s.nx → σ' i = σ i := by
  let σ' : Nat → Value := fun i => if i = s.nx then hv else σ i
  have hσ : ∀ i, i < s.nx → σ' i = σ i := fun i hi => if_neg (by omega)
  have hσn : σ' s.nx = hv := if_pos rfl
  have hk : ∀ b, S b → w'.heap[b]? = w.heap[b]? := fun b hb => hold b (hr.lt b hb)
  have get : ∀ id q, (s.new ob).hp id = some q → (id = s.nx ∧ q = ob) ∨ (id < s.nx ∧ s.hp id = some q) := by
    intro id q hq
    simp only [AS.new] at hq
    by_cases e : id = s.nx
    · subst e
      rw [Nat.beq_refl] at hq
      simp only [cond_true, Option.some.injEq] at hq
      exact .inl ⟨rfl, hq.symm⟩
    · rw [beq_ne e] at hq
      exact .inr ⟨hr.hp.lt id q hq, hq⟩
  refine ⟨σ', ⟨hr.size, hr.defers, fun i => (hr.fr i).mono hk (fun _ h => h) hσ (Nat.le_succ _), ⟨?_, ?_, ?_, ?_, ?_⟩, fun b hb => Nat.lt_trans (hr.lt b hb) hsz, hr.le, ?_, Nat.le_succ_of_le hr.nx, ?_, hr.up⟩, hσn, hσ⟩
  · intro id q hq
    rcases get id q hq with ⟨rfl, _⟩ | ⟨h, _⟩
    · exact Nat.lt_succ_self _
    · exact Nat.lt_succ_of_lt h
  · intro id q hq
    rcases get id q hq with ⟨rfl, rfl⟩ | ⟨h, h1⟩
    · exact ho σ' hσn hσ
    · exact (hr.hp.obj id q h1).mono hk (fun _ h => h) hσ (Nat.le_succ _) h (fun b hb => hold b (blk_lt (hr.hp.obj id q h1) hb))
  · intro id q b hq hbk
    rcases get id q hq with ⟨rfl, rfl⟩ | ⟨h, h1⟩
    · rw [hσn] at hbk
      exact fun hS => by have := hr.lt b hS; have := (hb b hbk).1; omega
    · rw [hσ id h] at hbk
      exact hr.hp.notS id q b h1 hbk
  · intro id q b hq hbk
    rcases get id q hq with ⟨rfl, rfl⟩ | ⟨h, h1⟩
    · rw [hσn] at hbk
      exact .inr (Nat.le_trans hr.keep.size (hb b hbk).1)
    · rw [hσ id h] at hbk
      exact hr.hp.own id q b h1 hbk
  · intro id id' q q' b hq hq' hbk hbk'
    rcases get id q hq with ⟨rfl, rfl⟩ | ⟨h, h1⟩
    · rcases get id' q' hq' with ⟨rfl, rfl⟩ | ⟨h', h1'⟩
      · rfl
      · rw [hσn] at hbk
        rw [hσ id' h'] at hbk'
        have := (hb b hbk).1
        have := blk_lt (hr.hp.obj id' q' h1') hbk'
        omega
    · rw [hσ id h] at hbk
      rcases get id' q' hq' with ⟨rfl, rfl⟩ | ⟨h', h1'⟩
      · rw [hσn] at hbk'
        have := (hb b hbk').1
        have := blk_lt (hr.hp.obj id q h1) hbk
        omega
      · rw [hσ id' h'] at hbk'
        exact hr.hp.inj id id' q q' b h1 h1' hbk hbk'
  · exact ⟨hos.trans hr.keep.os, htp.trans hr.keep.tape, hout.trans hr.keep.output, Nat.le_trans hr.keep.size (Nat.le_of_lt hsz), fun k hlt hB => (hold k (Nat.lt_of_lt_of_le hlt hr.keep.size)).trans (hr.keep.block k hlt hB)⟩
  · intro id hid hc
    rw [hσ id (Nat.lt_of_lt_of_le hid hr.nx)]
    exact hr.hs id hid hc

theorem rep_get (l : List PV) (hl : 0 < l.length) : ∀ (n k : Nat), k < n * l.length → (rep l n)[k]? = l[k % l.length]?
  | 0, k, h => by simp at h
  | n + 1, k, h => by
    simp only [rep]
    by_cases hk : k < l.length
    · rw [List.getElem?_append_left hk, Nat.mod_eq_of_lt hk]
    · have hk' : l.length ≤ k := by omega
      rw [List.getElem?_append_right hk', rep_get l hl n (k - l.length) (by rw [Nat.add_mul, Nat.one_mul] at h; omega)]
      congr 1
      rw [Nat.mod_eq_sub_mod hk']
theorem rep_len (l : List PV) : ∀ n, (rep l n).length = n * l.length
  | 0 => by simp [rep]
  | n + 1 => by simp only [rep, List.length_append, rep_len l n, Nat.add_mul, Nat.one_mul]; omega
theorem chunk_spec (sz : Nat) : ∀ (n : Nat) (l : List PV), l.length = n * sz → (chunk sz n l).length = n ∧ (∀ r ∈ chunk sz n l, r.length = sz) ∧ ∀ (i j : Nat) r p, (chunk sz n l)[i]? = some r → r[j]? = some p → l[i * sz + j]? = some p
  | 0, l, h => ⟨rfl, fun r hr => by simp [chunk] at hr, fun i j r p hr => by simp [chunk] at hr⟩
  | n + 1, l, h => by
    rw [Nat.add_mul, Nat.one_mul] at h
    obtain ⟨h1, h2, h3⟩ := chunk_spec sz n (l.drop sz) (by simp; omega)
    refine ⟨by simp [chunk, h1], fun r hr => ?_, fun i j r p hr hj => ?_⟩
    · simp only [chunk, List.mem_cons] at hr
      rcases hr with rfl | hr
      · simp; omega
      · exact h2 r hr
    · match i with
      | 0 =>
        simp only [chunk, List.getElem?_cons_zero, Option.some.injEq] at hr
        subst hr
        rw [Nat.zero_mul, Nat.zero_add]
        rw [List.getElem?_take] at hj
        split at hj
        · exact hj
        · cases hj
      | i + 1 =>
        simp only [chunk, List.getElem?_cons_succ] at hr
        have := h3 i j r p hr hj
        rw [List.getElem?_drop] at this
        rw [Nat.add_mul, Nat.one_mul, ← this]
        congr 1
        omega

theorem run_buildSlice_of {t len : Nat} {parts : Array (Nat × Operand)} (ho : o.op = .buildSlice t len parts) (hs : SR C s S σ a w) {e : Nat} {i ie : TI} {j d z j' d' z'} (ht : TypeOk P t i j d z) (hel : i.el = some e) (hte : TypeOk P e ie j' d' z')
    (hsz : len * ie.size ≤ 16777216) {ps : List PV}
    (hf : fillA (fun k => some (k * ie.size, ie.size)) (pvs (rep ie.zero len)) (parts.toList.map fun p => (p.1, s.ev p.2)) = some (pvs ps)) :
    ∃ arr, (execOp a.eval o).run P w = .ok (.value (.slice (some ⟨w.heap.size, 0, none⟩) len len)) (w.alloc (.cells arr e)) ∧ ∀ (σ' : Nat → Value) (id n' : Nat), σ' id = .slice (some ⟨w.heap.size, 0, none⟩) len len →
      ObjR (w.alloc (.cells arr e)) S σ' n' id (.row e ie.size (chunk ie.size len ps)) := by
  obtain ⟨h1, h2⟩ := parts_rel hs parts
  have hd := ht.el e hel
  subst hd
  have hzl : ie.zero.length = ie.size := by rw [← (pvs_spec ie.zero).1, ← (hte.zls w S σ s.nx).1, hte.zsize]
  have hpos := hte.pos
  -- the zero cells
  have hz0 : LsR w S σ s.nx (pvs (rep ie.zero len)) ((Array.range (len * ie.size)).map (z'.cells[· % z'.cells.size]!)) := by
    refine ⟨by rw [(pvs_spec _).1, rep_len, hzl]; simp, fun k x hx => ?_⟩
    obtain ⟨p, hp, rfl⟩ := (pvs_spec _).2.1 k x hx
    have hk : k < len * ie.size := by have := (List.getElem?_eq_some_iff.1 hp).1; rwa [rep_len, hzl] at this
    rw [rep_get _ (by omega) len k (by rw [hzl]; exact hk), hzl] at hp
    obtain ⟨v, hv, hr⟩ := (hte.zls w S σ s.nx).2 (k % ie.size) _ ((pvs_spec _).2.2 _ p hp)
    refine ⟨v, ?_, hr⟩
    rw [Array.getElem?_map, Array.getElem?_range, if_pos hk]
    simp only [Option.map_some, hte.zsize, Option.some.injEq]
    rw [getElem!_def, hv]
  obtain ⟨arr, h3, h4⟩ := fill_sound _ _ _ _ _ _ hz0 h1 h2 hf
  have hpl : ps.length = len * ie.size := by
    have h5 := h4.1
    rw [(pvs_spec ps).1] at h5
    have : ∀ (pl : Nat → Option (Nat × Nat)) (pr : List (Nat × Value)) (c c' : Array Value), Instr.fill pl c pr = some c' → c'.size = c.size := by
      intro pl pr
      induction pr with
      | nil => intro c c' hh; simp only [Instr.fill, Option.some.injEq] at hh; rw [hh]
      | cons q pr ih =>
        intro c c' hh
        simp only [Instr.fill] at hh
        split at hh
        · cases hh
        · split at hh
          · cases hh
          · rename_i off size _ hno
            rw [ih _ _ hh]
            have hf2 : ∀ (l : List (Value × Nat)) (c : Array Value), (l.foldl (fun cs p => cs.setIfInBounds (off + p.2) p.1) c).size = c.size := by
              intro l
              induction l with
              | nil => intro c; rfl
              | cons q l ih => intro c; rw [List.foldl_cons, ih]; simp
            rw [← Array.foldl_toList]
            exact hf2 _ _
    have h6 := this _ _ _ _ h3
    simp at h6
    omega
  obtain ⟨hc1, hc2, hc3⟩ := chunk_spec ie.size len ps hpl
  refine ⟨arr, ?_, fun σ' id n' hσ' => ?_⟩
  · simp only [execOp, ho]
    refine run_v ?_
    have hno : ¬ len * ie.size > 2 ^ 24 := by omega
    have h3' : Instr.fill (fun i => some (i * ie.size, ie.size)) ((Array.range (len * ie.size)).map (z'.cells[· % z'.cells.size]!)) (parts.toList.map fun x => (x.fst, a.eval x.snd)) = some arr := by rw [← h3, Array.toList_map]
    by_cases h0 : len * ie.size = 0
    · have hl0 : len = 0 := by rcases Nat.mul_eq_zero.1 h0 with h | h <;> omega
      subst hl0
      have hr0 : Array.range 0 = #[] := by simp [Array.range]
      rw [Nat.zero_mul, hr0, Array.map_empty] at h3'
      have h3'' : Instr.fill (fun i => some (i * ie.size, ie.size)) #[] (parts.toList.map fun x => (x.fst, a.eval x.snd)) = some arr := h3'
      simp [Instr.buildSlice, ht.run_und, hte.run_size, hr0, h3'', newRow]
    · simp [Instr.buildSlice, ht.run_und, hte.run_size, hno, h0, hte.run_zero, h3', newRow]
  · refine ⟨hc2, arr.toList, ?_, h4.ones, fun i j r p hi hj => ?_⟩
    · rw [hσ', hc1]
      refine ⟨by rw [Array.length_toList, h4.1, (pvs_spec ps).1, hpl], .inr ⟨w.heap.size, len, arr, rfl, Nat.zero_le _, heap_alloc_new w _, Nat.le_refl _, ?_, by rw [h4.1, (pvs_spec ps).1, hpl], ?_⟩⟩
      · have : len ≤ len * ie.size := Nat.le_mul_of_pos_right _ hpos
        unfold maxLen
        omega
      · rw [← hpl, ← (pvs_spec ps).1, ← h4.1, ← Array.length_toList, List.take_length]
    · obtain ⟨v, hv, hr⟩ := h4.2 _ _ ((pvs_spec ps).2.2 _ p (hc3 i j r p hi hj))
      refine ⟨v, by simpa using hv, ?_⟩
      cases hr with | pv hr => exact hr.mono (fun b hb => heap_alloc_old w _ b (hs.lt b hb)) (fun _ h => h)

theorem SR.grow {C : Ctx} {s : AS} {S σ a w w'} (hr : SR C s S σ a w) (hb : Below w.heap.size w w') : SR C s (fun b => S b ∨ (w.heap.size ≤ b ∧ b < w'.heap.size)) σ a w' := by
  have hk : ∀ b, S b → w'.heap[b]? = w.heap[b]? := fun b h => hb.block b (hr.lt b h)
  refine ⟨hr.size, hr.defers, fun i => (hr.fr i).mono hk (fun _ h => .inl h) (fun _ _ => rfl) (Nat.le_refl _), ⟨hr.hp.lt, fun id o ho => ?_, fun id o b ho hbk => ?_, hr.hp.own, hr.hp.inj⟩, fun b h => ?_, fun b h => .inl (hr.le b h), ?_, hr.nx, hr.hs, fun b h => ?_⟩
  · exact (hr.hp.obj id o ho).mono hk (fun _ h => .inl h) (fun _ _ => rfl) (Nat.le_refl _) (hr.hp.lt id o ho) (fun b hbk => hb.block b (blk_lt (hr.hp.obj id o ho) hbk))
  · rintro (h | h)
    · exact hr.hp.notS id o b ho hbk h
    · have := blk_lt (hr.hp.obj id o ho) hbk; omega
  · rcases h with h | h
    · exact Nat.lt_of_lt_of_le (hr.lt b h) hb.size
    · exact h.2
  · exact ⟨hb.os.trans hr.keep.os, hb.tape.trans hr.keep.tape, hb.output.trans hr.keep.output, Nat.le_trans hr.keep.size hb.size, fun k hk' hB => (hb.block k (Nat.lt_of_lt_of_le hk' hr.keep.size)).trans (hr.keep.block k hk' hB)⟩
  · rcases h with h | h
    · exact hr.up b h
    · exact .inr (.inl (Nat.le_trans hr.keep.size h.1))

/-- A row that is handed out to be read. -/
theorem objR_pv {w : World} {S S' : Nat → Prop} {σ : Nat → Value} {n id t sz : Nat} {rows : List (List PV)} (h : ObjR w S σ n id (.row t sz rows)) (hle : ∀ b, S b → S' b) (hb : ∀ b, blk (σ id) = some b → S' b) : PVR w S' (.vs sz rows) (σ id) := by
  obtain ⟨hl, xs, how, h1, hx⟩ := h
  rcases how.2 with ⟨h4, h5⟩ | ⟨g, cap, cur, h4, _, hh, hle', hm, _, htake⟩
  · have hr : rows = [] := List.eq_nil_of_length_eq_zero h5
    subst hr
    rw [h4]
    exact .vs sz [] none 0 (fun _ _ => undef) (Nat.le_refl _) (by omega) (fun _ => rfl) (by simp) (fun h => absurd rfl h) (by simp) (by simp)
  · have hown := hb g (by rw [h4]; rfl)
    rw [h4]
    refine .vs sz rows (some ⟨g, 0, none⟩) cap (fun i j => (xs[i * sz + j]?).getD undef) hle' (by unfold maxLen at hm; exact hm) (fun h => by cases h) hl (fun _ => ⟨g, 0, rfl, hown, fun i j hi hj => ?_⟩) (fun i j hi hj => ?_) (fun i j r p hi hj => ?_)
    · have hlt : i * sz + j < xs.length := by rw [how.1]; exact flat_lt hi hj
      have hget : xs[i * sz + j]? = some xs[i * sz + j] := List.getElem?_eq_getElem hlt
      simp only [hget, Option.getD_some]
      have := how.cells (g := g) (by rw [h4]; rfl) _ _ hget
      simpa [add_lit] using this
    · have hlt : i * sz + j < xs.length := by rw [how.1]; exact flat_lt hi hj
      rw [List.getElem?_eq_getElem hlt]
      exact h1 _ (List.getElem_mem hlt)
    · obtain ⟨v, h2, h3⟩ := hx i j r p hi hj
      rw [h2]
      exact h3.mono (fun _ _ => rfl) hle

theorem fine_buildPure {t len : Nat} {parts : Array (Nat × Operand)} (ho : o.op = .buildSlice t len parts) (hs : SR C s S σ a w) {e : Nat} {i ie : TI} {j d z j' d' z'} (ht : TypeOk P t i j d z) (hel : i.el = some e) (hte : TypeOk P e ie j' d' z')
    (hsz : len * ie.size ≤ 16777216) {ps : List PV}
    (hf : fillA (fun k => some (k * ie.size, ie.size)) (pvs (rep ie.zero len)) (parts.toList.map fun p => (p.1, s.ev p.2)) = some (pvs ps)) (h : s.put o.dst (.pv (.vs ie.size (chunk ie.size len ps))) K) : Fine P C o a w K := by
  obtain ⟨arr, hr, hob⟩ := run_buildSlice_of ho hs ht hel hte hsz hf
  have hbel : Below w.heap.size w (w.alloc (.cells arr e)) := (Below.refl _ w).alloc (Nat.le_refl _) _
  have hv := objR_pv (S' := fun b => S b ∨ (w.heap.size ≤ b ∧ b < (w.alloc (.cells arr e)).heap.size)) (hob (fun _ => .slice (some ⟨w.heap.size, 0, none⟩) len len) 0 1 rfl) (fun _ h => .inl h) (fun b hb => by
    simp only [blk, Option.some.injEq] at hb
    subst hb
    exact .inr ⟨Nat.le_refl _, by show w.heap.size < (w.heap.push _).size; simp⟩)
  exact fine_of hr (hs.grow hbel) (.one (.lf (.pv hv))) h

theorem fine_buildSlice {t len : Nat} {parts : Array (Nat × Operand)} (ho : o.op = .buildSlice t len parts) (hs : SR C s S σ a w) {e : Nat} {i ie : TI} {j d z j' d' z'} (ht : TypeOk P t i j d z) (hel : i.el = some e) (hte : TypeOk P e ie j' d' z')
    (hsz : len * ie.size ≤ 16777216) {ps : List PV}
    (hf : fillA (fun k => some (k * ie.size, ie.size)) (pvs (rep ie.zero len)) (parts.toList.map fun p => (p.1, s.ev p.2)) = some (pvs ps)) (h : (s.new (.row e ie.size (chunk ie.size len ps))).put o.dst (.lv (.sl s.nx)) K) : Fine P C o a w K := by
  obtain ⟨arr, hr, hob⟩ := run_buildSlice_of ho hs ht hel hte hsz hf
  obtain ⟨σ', hs', hσ, _⟩ := hs.newObj (ob := .row e ie.size (chunk ie.size len ps)) (w' := w.alloc (.cells arr e)) (.slice (some ⟨w.heap.size, 0, none⟩) len len) (by simp) (fun b hb => heap_alloc_old w _ b hb) rfl rfl rfl
    (fun b hb => by simp only [blk, Option.some.injEq] at hb; subst hb; simp) (fun σ' hσ' _ => hob σ' s.nx (s.nx + 1) hσ')
  refine fine_of (cv := σ' s.nx) ?_ hs' (.one (.lf (.sl (Nat.lt_succ_self _) (by rw [hσ]; rfl)))) h
  rw [hσ]
  exact hr

theorem fine_make {t : Nat} {l c : Operand} (ho : o.op = .makeSlice t l c) (hs : SR C s S σ a w) {e : Nat} {i ie : TI} {j d z j' d' z'} (ht : TypeOk P t i j d z) (hel : i.el = some e) (hte : TypeOk P e ie j' d' z')
    {kl kc : IntKind} {b : Int} (hl : a.eval l = .int kl 0) (hc : a.eval c = .int kc b) (h0 : 0 ≤ b) (hby : ie.bytes * b.toNat ≤ 281474976710656) (h63 : b.toNat ≤ 9223372036854775807)
    (h : (s.new (.row e ie.size [])).put o.dst (.lv (.sl s.nx)) K) : Fine P C o a w K := by
  have hd := ht.el e hel
  subst hd
  obtain ⟨n, rfl⟩ : ∃ n : Nat, b = n := ⟨b.toNat, by omega⟩
  have hr := run_make (P := P) w t e j' z' ht.und hte.info hte.zero kl kc 0 (n : Int) (Int.le_refl _) (by omega) (by
    rw [hte.bytes]
    have h2 : ((ie.bytes * n : Nat) : Int) ≤ 281474976710656 := by simp only [Int.toNat_natCast] at hby; omega
    rwa [Int.natCast_mul] at h2) (by simp only [Int.toNat_natCast] at h63; omega)
  simp only [Int.toNat_zero, Int.toNat_natCast] at hr
  generalize hm : madeCells z'.cells (n * j'.size) = arr at hr
  have hsz : arr.size = n * j'.size := by rw [← hm]; exact size_madeCells _ _
  obtain ⟨σ', hs', hσ, _⟩ := hs.newObj (ob := .row e ie.size []) (w' := w.alloc (.cells arr e)) (.slice (some ⟨w.heap.size, 0, none⟩) 0 n) (by simp) (fun b hb => heap_alloc_old w _ b hb) rfl rfl rfl
    (fun b hb => by simp only [blk, Option.some.injEq] at hb; subst hb; simp) (fun σ' hσ' _ => by
      refine ⟨by simp, [], ?_, by simp, by simp⟩
      rw [hσ']
      have := World.ownsRow_made (e := e) (size := ie.size) w arr n (Nat.zero_le w.heap.size) (by unfold maxLen; simpa using h63) (by rw [hsz, hte.size])
      exact this)
  refine fine_of (cv := σ' s.nx) ?_ hs' (.one (.lf (.sl (Nat.lt_succ_self _) (by rw [hσ]; rfl)))) h
  rw [hσ]
  simp only [execOp, ho, hl, hc]
  exact run_v hr

end
end Go.Proofs.Ytijjagkeaehhbaa.Eng
