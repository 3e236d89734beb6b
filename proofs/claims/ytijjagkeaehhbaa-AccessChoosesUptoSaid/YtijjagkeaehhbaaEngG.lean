/- The engine's operations are sound: loads, stores, fields, indices, calls. -/
import Derived.Test.YtijjagkeaehhbaaEngF
set_option linter.unusedSimpArgs false
set_option linter.unusedVariables false
namespace Go.Proofs.Ytijjagkeaehhbaa.Eng
open Go.RowKit (Below)

section
variable {P : Program} {T : Tab} {C : Ctx} {o : Oper} {s : AS} {K : AS → Prop} {S : Nat → Prop} {σ : Nat → Value} {a : Act} {w : World}

theorem run_load_of {t : Nat} {x : Operand} {u cv : Value} (ho : o.op = .load t x) (hx : a.eval x = u) (h : (Instr.loadAt t u).run P w = .ok cv w) : (execOp a.eval o).run P w = .ok (.value cv) w := by
  simp only [execOp, ho, hx]; exact run_v h

theorem fine_load_box {t : Nat} {x : Operand} (ho : o.op = .load t x) (hs : SR C s S σ a w) {i : TI} {j d z} (ht : TypeOk P t i j d z) {id off t' : Nat} {cs : List LV} (hx : s.ev x = .one (.lf (.ptr id off)))
    (hid : s.hp id = some (.box t' cs)) {v : AV} (hv : ofCells i.agg cs off i.size = some v) (h : s.put o.dst v K) : Fine P C o a w K := by
  obtain ⟨_, b, hb, he⟩ := (hx ▸ hs.ev x).ptr_inv
  obtain ⟨b', vs, h1, h2, h3⟩ := hs.hp.obj id _ hid
  rw [hb] at h1
  obtain rfl : b = b' := by simpa using h1
  obtain ⟨cv, hr, hav⟩ := load_cells ht (box_cells h2 h3) hv
  rw [Nat.zero_add] at hr
  exact fine_of (run_load_of ho he hr) hs hav h

theorem fine_load_cp {t : Nat} {x : Operand} (ho : o.op = .load t x) (hs : SR C s S σ a w) {i : TI} {j d z} (ht : TypeOk P t i j d z) {r : List PV} {off : Nat} (hx : s.ev x = .one (.lf (.pv (.cp r off))))
    {v : AV} (hv : ofCells i.agg (pvs r) off i.size = some v) (h : s.put o.dst v K) : Fine P C o a w K := by
  obtain ⟨b, q, f, he, _, hc, _, hp⟩ := (hx ▸ hs.ev x).cp_inv
  obtain ⟨cv, hr, hav⟩ := load_cells (S := S) (σ := σ) (n := s.nx) (w := w) (b := b) (o := q) ht (fun k y hy => by
    obtain ⟨p, hp', rfl⟩ := (pvs_spec r).2.1 k y hy
    have hk : k < r.length := (List.getElem?_eq_some_iff.1 hp').1
    exact ⟨f k, hc k hk, .pv (hp k p hp')⟩) hv
  exact fine_of (run_load_of ho he hr) hs hav h

/-- A row object, laid open. -/
theorem row_open {id t sz : Nat} {rows : List (List PV)} (hs : SR C s S σ a w) (hid : s.hp id = some (.row t sz rows)) :
    (∀ r ∈ rows, r.length = sz) ∧ ∃ xs, w.ownsRow 0 t sz (σ id) rows.length xs ∧ (∀ v ∈ xs, v.oneCell' = true) ∧ ∀ i j r p, rows[i]? = some r → r[j]? = some p → ∃ v, xs[i * sz + j]? = some v ∧ PVR w S p v := hs.hp.obj id _ hid

theorem row_get {id t sz : Nat} {rows : List (List PV)} (hs : SR C s S σ a w) (hid : s.hp id = some (.row t sz rows)) {b m c idx : Nat} (hb : σ id = .slice (some ⟨b, 0, none⟩) m c) {r : List PV} (hr : rows[idx]? = some r) :
    ∀ (k : Nat) y, (pvs r)[k]? = some y → ∃ v, w.cell? ⟨b, idx * sz + k, none⟩ = some v ∧ LVR w S σ s.nx y v := by
  obtain ⟨hl, xs, ho, h1, hx⟩ := row_open hs hid
  intro k y hy
  obtain ⟨p, hp, rfl⟩ := (pvs_spec r).2.1 k y hy
  obtain ⟨v, hv, hpv⟩ := hx idx k r p hr hp
  have hc := ho.cells (g := b) (by rw [hb]; rfl) _ v hv
  rw [add_lit, Nat.zero_add] at hc
  exact ⟨v, hc, .pv hpv⟩

theorem fine_load_rp {t : Nat} {x : Operand} (ho : o.op = .load t x) (hs : SR C s S σ a w) {i : TI} {j d z} (ht : TypeOk P t i j d z) {id sz idx off t' : Nat} {rows : List (List PV)} (hx : s.ev x = .one (.lf (.rp id sz idx off)))
    (hid : s.hp id = some (.row t' sz rows)) {r : List PV} (hr : rows[idx]? = some r) {v : AV} (hv : ofCells i.agg (pvs r) off i.size = some v) (h : s.put o.dst v K) : Fine P C o a w K := by
  obtain ⟨_, b, m, c, hb, he⟩ := (hx ▸ hs.ev x).rp_inv
  obtain ⟨cv, hrun, hav⟩ := load_cells ht (row_get hs hid hb hr) hv
  exact fine_of (run_load_of ho he hrun) hs hav h

/-- Storing a value's cells into a block. -/
theorem run_store_of {t : Nat} {p x : Operand} (ho : o.op = .store t p x) {i : TI} {j d z} (ht : TypeOk P t i j d z) {b off e : Nat} {cur : Array Value} (hp : a.eval p = .pointer (some ⟨b, off, none⟩))
    (hb : w.heap[b]? = some (.cells cur e (0, 0))) (hsz : (a.eval x).cells.size = i.size) (h1 : ∀ v ∈ (a.eval x).cells.toList, v.oneCell' = true) (hfit : off + (a.eval x).cells.size ≤ cur.size) :
    (execOp a.eval o).run P w = .ok .skip (w.setRow b (cur.toList.take off ++ (a.eval x).cells.toList ++ cur.toList.drop (off + (a.eval x).cells.size)).toArray) := by
  have hst := run_storeCells_at P b off e (a.eval x).cells.toList 0 cur w hb (by simpa using hfit) h1
  simp only [Nat.add_zero, Array.length_toList] at hst
  simp only [execOp, ho, hp]
  exact run_u (by simp [Instr.storeAt, Instr.sureAddr, storeVar, ht.run_size, hsz, hst])

theorem LsR.ones {w : World} {S : Nat → Prop} {σ : Nat → Value} {n : Nat} {xs : List LV} {vs : Array Value} (h : LsR w S σ n xs vs) : ∀ v ∈ vs.toList, v.oneCell' = true := by
  intro v hv
  obtain ⟨i, hi, rfl⟩ := List.getElem_of_mem hv
  have hi' : i < xs.length := by have := h.1; simp at hi; omega
  obtain ⟨v', hv', hr⟩ := h.2 i _ (List.getElem?_eq_getElem hi')
  have : vs.toList[i] = v' := by
    have e : vs.toList[i]? = some v' := by simpa using hv'
    rw [List.getElem?_eq_getElem hi] at e
    exact Option.some.inj e
  rw [this]
  exact hr.one

theorem LsR.splice {w : World} {S : Nat → Prop} {σ : Nat → Value} {n : Nat} {cs xs : List LV} {cur vs : Array Value} {off : Nat} (hc : LsR w S σ n cs cur) (hx : LsR w S σ n xs vs) (hfit : off + xs.length ≤ cs.length) :
    LsR w S σ n (splice cs off xs) (cur.toList.take off ++ vs.toList ++ cur.toList.drop (off + vs.size)).toArray := by
  have hl := hc.1
  have hv := hx.1
  refine ⟨by simp [Eng.splice]; omega, fun i x hi => ?_⟩
  unfold Eng.splice at hi
  have hgoal : ∀ v, (cur.toList.take off ++ vs.toList ++ cur.toList.drop (off + vs.size))[i]? = some v → (cur.toList.take off ++ vs.toList ++ cur.toList.drop (off + vs.size)).toArray[i]? = some v := fun v h => by simpa using h
  by_cases h1 : i < off
  · rw [List.getElem?_append_left (by simp; omega), List.getElem?_take_of_lt h1] at hi
    obtain ⟨v, h2, h3⟩ := hc.2 i x hi
    refine ⟨v, hgoal v ?_, h3⟩
    rw [List.append_assoc, List.getElem?_append_left (by simp; omega), List.getElem?_take_of_lt h1]
    simpa using h2
  · by_cases h2 : i < off + xs.length
    · rw [List.getElem?_append_right (by simp; omega)] at hi
      rw [List.getElem?_append_left (by simp; omega)] at hi
      have e : i - (List.take off cs).length = i - off := by simp; omega
      rw [e] at hi
      obtain ⟨v, h3, h4⟩ := hx.2 (i - off) x hi
      refine ⟨v, hgoal v ?_, h4⟩
      rw [List.append_assoc, List.getElem?_append_right (by simp; omega), List.getElem?_append_left (by simp; omega)]
      have e' : i - (List.take off cur.toList).length = i - off := by simp; omega
      rw [e']
      simpa using h3
    · rw [List.getElem?_append_right (by simp; omega), List.getElem?_append_right (by simp; omega), List.getElem?_drop] at hi
      have e : off + xs.length + (i - (List.take off cs).length - xs.length) = i := by simp; omega
      rw [e] at hi
      obtain ⟨v, h3, h4⟩ := hc.2 i x hi
      refine ⟨v, hgoal v ?_, h4⟩
      rw [List.append_assoc, List.getElem?_append_right (by simp; omega), List.getElem?_append_right (by simp; omega), List.getElem?_drop]
      have e' : off + vs.size + (i - (List.take off cur.toList).length - vs.toList.length) = i := by simp; omega
      rw [e']
      simpa using h3

theorem fine_store_box {t : Nat} {p x : Operand} (ho : o.op = .store t p x) (hs : SR C s S σ a w) {i : TI} {j d z} (ht : TypeOk P t i j d z) {xs : List LV} (hxs : (s.ev x).cells = some xs) (hsz : xs.length = i.size)
    {id off t' : Nat} {cs : List LV} (hp : s.ev p = .one (.lf (.ptr id off))) (hid : s.hp id = some (.box t' cs)) (hfit : off + xs.length ≤ cs.length)
    (h : (s.setO id (.box t' (splice cs off xs))).put o.dst .any K) : Fine P C o a w K := by
  obtain ⟨_, b, hb, he⟩ := (hp ▸ hs.ev p).ptr_inv
  obtain ⟨b', vs, h1, h2, h3⟩ := hs.hp.obj id _ hid
  have h1' := h1
  rw [hb] at h1
  obtain rfl : b = b' := by simpa using h1
  have hl := (hs.ev x).cells hxs
  have hl1 := hl.1
  have h31 := h3.1
  refine fine_skip (run_store_of ho ht he h2 (by omega) hl.ones (by omega)) (hs.write hid (b := b) (by rw [hb]; rfl) (fun k hk => setRow_other w b k _ hk) (by simp) rfl rfl rfl ?_) h
  have hk : ∀ k, S k → (w.setRow b (vs.toList.take off ++ (a.eval x).cells.toList ++ vs.toList.drop (off + (a.eval x).cells.size)).toArray).heap[k]? = w.heap[k]? := fun k hS =>
    setRow_other w b k _ (fun e => hs.hp.notS id _ b hid (by rw [hb]; rfl) (e ▸ hS))
  exact ⟨b, _, hb, setRow_heap w b vs _ t' (0, 0) h2, (h3.splice hl hfit).mono hk (fun _ h => h) (fun _ _ => rfl) (Nat.le_refl _)⟩

theorem run_fieldAt {t f : Nat} {i : TI} {j d z} (ht : TypeOk P t i j d z) {fo : Nat × Nat × Bool} (hf : i.fo[f]? = some fo) (b off : Nat) (w : World) :
    (Instr.fieldAt t (.pointer (some ⟨b, off, none⟩)) f).run P w = .ok (.pointer (some ⟨b, off + fo.1, none⟩)) w := by
  obtain ⟨fs, ft, q, e, hd, hft, h1, h2, h3, h4, h5, h6⟩ := ht.fo f fo hf
  subst hd
  have hsz : (sizeOf ft.type).run P w = .ok q.size w := by simp [sizeOf, typeInfo, h2]
  have hq : ¬ q.size = 0 := by omega
  simp [Instr.fieldAt, ht.run_und, hft, Instr.sureAddr, fieldPlace, hsz, hq, h1, add_lit]

theorem fine_fieldAddr {t f : Nat} {x : Operand} (ho : o.op = .fieldAddr t x f) (hs : SR C s S σ a w) {i : TI} {j d z} (ht : TypeOk P t i j d z) {fo : Nat × Nat × Bool} (hf : i.fo[f]? = some fo)
    (h : match s.ev x with
      | .one (.lf (.ptr id off)) => s.put o.dst (.lv (.ptr id (off + fo.1))) K
      | .one (.lf (.rp id sz idx off)) => s.put o.dst (.lv (.rp id sz idx (off + fo.1))) K
      | .one (.lf (.pv (.cp r off))) => s.put o.dst (.pv (.cp r (off + fo.1))) K
      | _ => False) : Fine P C o a w K := by
  have hx := hs.ev x
  split at h
  · rename_i id off e
    rw [e] at hx
    obtain ⟨hn, b, hb, he⟩ := hx.ptr_inv
    refine fine_of (cv := .pointer (some ⟨b, off + fo.1, none⟩)) ?_ hs (.one (.lf (.ptr hn hb))) h
    simp only [execOp, ho, he]; exact run_v (run_fieldAt ht hf b off w)
  · rename_i id sz idx off e
    rw [e] at hx
    obtain ⟨hn, b, m, c, hb, he⟩ := hx.rp_inv
    refine fine_of (cv := .pointer (some ⟨b, idx * sz + (off + fo.1), none⟩)) ?_ hs (.one (.lf (.rp hn hb))) h
    simp only [execOp, ho, he]; rw [← Nat.add_assoc]; exact run_v (run_fieldAt ht hf b _ w)
  · rename_i r off e
    rw [e] at hx
    obtain ⟨b, q, f', he, hS, hc, h1, hp⟩ := hx.cp_inv
    refine fine_of (cv := .pointer (some ⟨b, q + (off + fo.1), none⟩)) ?_ hs (.one (.lf (.pv (.cp r _ b q f' hS hc h1 hp)))) h
    simp only [execOp, ho, he]; rw [← Nat.add_assoc]; exact run_v (run_fieldAt ht hf b _ w)
  · exact h.elim

theorem fine_field {t f : Nat} {x : Operand} (ho : o.op = .field t x f) (hs : SR C s S σ a w) {i : TI} {j d z} (ht : TypeOk P t i j d z) {fo : Nat × Nat × Bool} (hf : i.fo[f]? = some fo)
    {xs : List LV} (hx : s.ev x = .one (.agg xs)) {v : AV} (hv : ofCells fo.2.2 xs fo.1 fo.2.1 = some v) (h : s.put o.dst v K) : Fine P C o a w K := by
  obtain ⟨fs, ft, q, e, hd, hft, h1, h2, h3, h4, h5, h6⟩ := ht.fo f fo hf
  subst hd
  have hr := hs.ev x
  rw [hx] at hr
  cases hev : a.eval x with
  | agg vs =>
    rw [hev] at hr
    have hl : LsR w S σ s.nx xs vs := by cases hr with | one hr => cases hr with | agg hl => exact hl
    have hsz : (sizeOf ft.type).run P w = .ok fo.2.1 w := by simp [sizeOf, typeInfo, h2, h4]
    have hag : (isAgg ft.type).run P w = .ok fo.2.2 w := by
      rw [← h5]
      unfold isAgg
      rw [Sem.run_bind, run_underlying h3]
      simp only [Result.andThen_ok]
      cases e <;> rfl
    unfold ofCells at hv
    split at hv
    · rename_i hb
      split at hv
      · rename_i hle
        cases hv
        have hle := Nat.le_of_ble_eq_true hle
        refine fine_of (cv := .agg (vs.extract fo.1 (fo.1 + fo.2.1))) ?_ hs (.one (.agg ⟨?_, fun k y hy => ?_⟩)) h
        · simp only [execOp, ho, hev]
          exact run_v (by simp [Instr.field, ht.run_und, hft, part, hag, hb, asAgg, hsz, h1])
        · have := hl.1; simp; omega
        · rw [List.getElem?_take] at hy
          split at hy
          · rename_i hk
            rw [List.getElem?_drop] at hy
            obtain ⟨v, h7, h8⟩ := hl.2 _ y hy
            have h71 : fo.1 + k < vs.size := (Array.getElem?_eq_some_iff.1 h7).1
            exact ⟨v, by rw [Array.getElem?_extract]; rw [if_pos (by omega)]; exact h7, h8⟩
          · cases hy
      · cases hv
    · rename_i hb
      split at hv
      · rename_i y hy
        cases hv
        obtain ⟨v, h7, h8⟩ := hl.2 _ y hy
        refine fine_of (cv := v) ?_ hs (.one (.lf h8)) h
        simp only [execOp, ho, hev]
        exact run_v (by simp [Instr.field, ht.run_und, hft, part, hag, hb, asAgg, h1, h7])
      · cases hv
  | _ => rw [hev] at hr; cases hr with | one hr => cases hr

end
end Go.Proofs.Ytijjagkeaehhbaa.Eng
