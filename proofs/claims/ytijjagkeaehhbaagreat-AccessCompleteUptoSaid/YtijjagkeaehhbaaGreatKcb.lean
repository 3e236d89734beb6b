/- The engine's operations are sound: one lemma an operation. And what follows in this text; each statement bears its conditions. -/
import Derived.Test.YtijjagkeaehhbaaGreatKca
import Derived.Maps.AppendAt
/- The engine's operations are sound: one lemma an operation. -/
set_option linter.unusedSimpArgs false
set_option linter.unusedVariables false
namespace Go.Proofs.YtijjagkeaehhbaaGreat.Eng
open Go.RowKit (Below)

/-- What every operation's lemma says. -/
def Fine (P : Program) (C : Ctx) (o : Oper) (a : Act) (w : World) (K : AS → Prop) : Prop :=
  ∀ Q : Exit → Act → World → Prop, o.wp P a w (fun a' w' => ∃ s', K s' ∧ St C s' a' w') Q

section
variable {P : Program} {T : Tab} {C : Ctx} {o : Oper} {s : AS} {K : AS → Prop} {S : Nat → Prop} {σ : Nat → Value} {a : Act} {w : World}

theorem fine_of {cv : Value} {w' : World} {s' : AS} {S' : Nat → Prop} {σ' : Nat → Value} {v : AV} (hr : (execOp a.eval o).run P w = .ok (.value cv) w') (hs : SR C s' S' σ' a w') (hv : AVR w' S' σ' s'.nx v cv)
    (h : s'.put o.dst v K) : Fine P C o a w K := fun _ => wp_value hr (by obtain ⟨s'', hk, hs'⟩ := hs.put hv h; exact ⟨s'', hk, S', σ', hs'⟩)
theorem fine_skip {w' : World} {s' : AS} {S' : Nat → Prop} {σ' : Nat → Value} (hr : (execOp a.eval o).run P w = .ok .skip w') (hs : SR C s' S' σ' a w')
    (h : s'.put o.dst .any K) : Fine P C o a w K := fun _ => wp_skip' hr (by obtain ⟨s'', hk, hs'⟩ := hs.put (.one (.any undef)) h; exact ⟨s'', hk, S', σ', hs'⟩)
theorem run_v {m : Sem Value} {cv : Value} {w' : World} (h : m.run P w = .ok cv w') : (do pure (Next.value (← m)) : Sem Next).run P w = .ok (.value cv) w' := by simp [h]
theorem run_u {m : Sem Unit} {w' : World} (h : m.run P w = .ok () w') : (do m; pure Next.skip : Sem Next).run P w = .ok .skip w' := by simp [h]

theorem fine_pure (hs : SR C s S σ a w) (h : ∃ r, PureOp P o s.ev r ∧ s.put o.dst r K) : Fine P C o a w K := by
  obtain ⟨r, h1, h2⟩ := h
  obtain ⟨v, h3, h4⟩ := h1.run w S σ s.nx a.eval fun x _ => hs.ev x
  exact fine_of h3 hs h4 h2
theorem fine_move {x : Operand} (ho : o.op = .move x ∨ o.op = .assign x) (hs : SR C s S σ a w) (h : s.put o.dst (s.ev x) K) : Fine P C o a w K :=
  fine_of (by rcases ho with ho | ho <;> simp [execOp, ho]) hs (hs.ev x) h

theorem AVR.pv_inv {w S σ n p v} (h : AVR w S σ n (.one (.lf (.pv p))) v) : PVR w S p v := by
  cases h with | one h => cases h with | lf h => cases h with | pv h => exact h
theorem AVR.bool_inv {w S σ n b v} (h : AVR w S σ n (.one (.lf (.pv (.bool b)))) v) : v = .bool b := by cases h.pv_inv; rfl
theorem AVR.int_inv {w S σ n k x v} (h : AVR w S σ n (.one (.lf (.pv (.int k x)))) v) : v = .int k x := by cases h.pv_inv; rfl
theorem AVR.str_inv {w S σ n x v} (h : AVR w S σ n (.one (.lf (.pv (.str x)))) v) : v = .string x := by cases h.pv_inv; rfl
theorem AVR.int {w S σ n} (k x) : AVR w S σ n (.one (.lf (.pv (.int k x)))) (.int k x) := .one (.lf (.pv (.int k x)))
theorem AVR.bool {w S σ n} (x) : AVR w S σ n (.one (.lf (.pv (.bool x)))) (.bool x) := .one (.lf (.pv (.bool x)))
theorem AVR.str {w S σ n} (x) : AVR w S σ n (.one (.lf (.pv (.str x)))) (.string x) := .one (.lf (.pv (.str x)))
theorem AVR.ptr_inv {w S σ n id off v} (h : AVR w S σ n (.one (.lf (.ptr id off))) v) : id < n ∧ ∃ b, σ id = .pointer (some ⟨b, 0, none⟩) ∧ v = .pointer (some ⟨b, off, none⟩) := by
  cases h with | one h => cases h with | lf h => cases h with | ptr hn h => exact ⟨hn, _, h, rfl⟩
theorem AVR.rp_inv {w S σ n id sz idx off v} (h : AVR w S σ n (.one (.lf (.rp id sz idx off))) v) : id < n ∧ ∃ b m c, σ id = .slice (some ⟨b, 0, none⟩) m c ∧ v = .pointer (some ⟨b, idx * sz + off, none⟩) := by
  cases h with | one h => cases h with | lf h => cases h with | rp hn h => exact ⟨hn, _, _, _, h, rfl⟩
theorem AVR.sl_inv {w S σ n id v} (h : AVR w S σ n (.one (.lf (.sl id))) v) : id < n ∧ v = σ id := by
  cases h with | one h => cases h with | lf h => cases h with | sl hn _ => exact ⟨hn, rfl⟩
theorem AVR.cp_inv {w S σ n r off v} (h : AVR w S σ n (.one (.lf (.pv (.cp r off)))) v) :
    ∃ b o, ∃ f : Nat → Value, v = .pointer (some ⟨b, o + off, none⟩) ∧ S b ∧ (∀ j, j < r.length → w.cell? ⟨b, o + j, none⟩ = some (f j)) ∧ (∀ j, j < r.length → (f j).oneCell' = true) ∧ ∀ (j : Nat) p, r[j]? = some p → PVR w S p (f j) := by
  have h := h.pv_inv
  cases h with | cp _ _ b o f hS hc h1 hp => exact ⟨b, o, f, rfl, hS, hc, h1, hp⟩

theorem fine_pick {c x y : Operand} (ho : o.op = .pick c x y) (hs : SR C s S σ a w) {t : Bool} (hc : s.ev c = .one (.lf (.pv (.bool t))))
    (h1 : t = true → s.put o.dst (s.ev x) K) (h2 : t = false → s.put o.dst (s.ev y) K) : Fine P C o a w K := by
  have e : a.eval c = .bool t := (hc ▸ hs.ev c).bool_inv
  cases t with
  | true => exact fine_of (by simp [execOp, ho, e, asBool]) hs (hs.ev x) (h1 rfl)
  | false => exact fine_of (by simp [execOp, ho, e, asBool]) hs (hs.ev y) (h2 rfl)

theorem eqGuard_int (op : BinOp) (t : Nat) (x y : Operand) (k k' : IntKind) (u v : Int) : (eqGuard op t x y (.int k u) (.int k' v)).run P w = .ok () w := by cases op <;> rfl
theorem eqGuard_str (op : BinOp) (t : Nat) (x y : Operand) (u v : ByteArray) : (eqGuard op t x y (.string u) (.string v)).run P w = .ok () w := by cases op <;> rfl

theorem run_binOp_of {op : BinOp} {t : Nat} {x y : Operand} {u v : Value} {yt : Nat} (ho : o.op = .binOp op t x y yt) (hu : a.eval x = u) (hv : a.eval y = v) (h : (eqGuard op t x y u v).run P w = .ok () w) {cv : Value}
    (hr : (binOp op t u v).run P w = .ok cv w) : (execOp a.eval o).run P w = .ok (.value cv) w := by
  simp only [execOp, ho, hu, hv]
  exact run_v (by rw [Sem.run_bind, h]; exact hr)

theorem cmp_run (op : BinOp) (x y : Int) {r : Bool} (h : cmpA op x y = some r) : (Op.intCmp op x y).run P w = .ok (.bool r) w := by
  unfold cmpA at h
  cases op <;> first | (cases h; rfl) | cases h
theorem arith_run (op : BinOp) (k : IntKind) (x y : Int) {r : Int} (h : arithA op k x y = some r) : (Op.intArith op k x y).run P w = .ok (.int k r) w := by
  unfold arithA at h
  cases op <;> first | (cases h; rfl) | cases h
theorem str_run (op : BinOp) (x y : ByteArray) {r : Bool} (h : strA op x y = some r) : (Op.stringOp op x y).run P w = .ok (.bool r) w := by
  unfold strA at h
  cases op <;> first | (cases h; rfl) | cases h

theorem int_run (op : BinOp) (t : Nat) (k : IntKind) (x y : Int) {cv : Value}
    (h : match op with
      | .quo => y ≠ 0 ∧ cv = .int k (k.wrap (x.tdiv y))
      | .rem => y ≠ 0 ∧ cv = .int k (x.tmod y)
      | op => match cmpA op x y with | some r => cv = .bool r | none => match arithA op k x y with | some r => cv = .int k r | none => False) :
    (binOp op t (.int k x) (.int k y)).run P w = .ok cv w := by
  unfold binOp
  cases op <;> simp [cmpA, arithA] at h <;> (try (subst h; first | rfl | simp [Op.intCmp, Op.intArith])) <;> (obtain ⟨h1, rfl⟩ := h; simp [Op.intDiv, h1])

theorem fine_bin {op : BinOp} {t yt : Nat} {x y : Operand} (ho : o.op = .binOp op t x y yt) (hs : SR C s S σ a w) (h : binA P op t x y (s.ev x) (s.ev y) fun v => s.put o.dst v K) : Fine P C o a w K := by
  unfold binA at h
  split at h
  · rename_i k u k' v hx hy
    split at h
    · rename_i hk
      have hk := of_decide_eq_true hk
      subst hk
      have ex : a.eval x = .int k u := (hx ▸ hs.ev x).int_inv
      have ey : a.eval y = .int k v := (hy ▸ hs.ev y).int_inv
      split at h
      · exact fine_of (run_binOp_of ho ex ey (eqGuard_int ..) (int_run .quo t k u v ⟨h.1, rfl⟩)) hs (.int _ _) h.2
      · exact fine_of (run_binOp_of ho ex ey (eqGuard_int ..) (int_run .rem t k u v ⟨h.1, rfl⟩)) hs (.int _ _) h.2
      · rename_i hq hm
        split at h
        · rename_i r hr
          refine fine_of (run_binOp_of ho ex ey (eqGuard_int ..) (int_run op t k u v (cv := .bool r) ?_)) hs (.bool _) h
          cases op <;> simp_all [cmpA]
        · rename_i hr
          split at h
          · rename_i r hr'
            refine fine_of (run_binOp_of ho ex ey (eqGuard_int ..) (int_run op t k u v (cv := .int k r) ?_)) hs (.int _ _) h
            cases op <;> simp_all [cmpA]
          · exact h.elim
    · exact h.elim
  · rename_i u v hx hy
    have ex : a.eval x = .string u := (hx ▸ hs.ev x).str_inv
    have ey : a.eval y = .string v := (hy ▸ hs.ev y).str_inv
    split at h
    · refine fine_of (run_binOp_of ho ex ey (eqGuard_str ..) (cv := .string (u ++ v)) ?_) hs (.str _) h.2
      have h1 := h.1
      have : ¬ IntKind.i64.max < ((u.size + v.size : Nat) : Int) := by
        have : IntKind.i64.max = 9223372036854775807 := rfl
        omega
      simp only [binOp, Op.stringOp]
      rw [if_neg (by simpa using this)]
      rfl
    · split at h
      · rename_i r hr
        refine fine_of (run_binOp_of ho ex ey (eqGuard_str ..) (cv := .bool r) ?_) hs (.bool _) h
        have : binOp op t (.string u) (.string v) = Op.stringOp op u v := by cases op <;> rfl
        rw [this]
        exact str_run op u v hr
      · exact h.elim
  · obtain ⟨r, h1, h2⟩ := h
    obtain ⟨h3, h4⟩ := h1.run w S σ s.nx _ _ (hs.ev x) (hs.ev y)
    exact fine_of (run_binOp_of ho rfl rfl h3 h4) hs (.bool _) h2

theorem fine_not {t : Nat} {x : Operand} (ho : o.op = .unOp .not t x) (hs : SR C s S σ a w) {b : Bool} (hx : s.ev x = .one (.lf (.pv (.bool b)))) (h : s.put o.dst (.b !b) K) : Fine P C o a w K := by
  have e : a.eval x = .bool b := (hx ▸ hs.ev x).bool_inv
  exact fine_of (by simp [execOp, ho, e, Op.unary]) hs (.bool _) h
theorem fine_neg {t : Nat} {x : Operand} (ho : o.op = .unOp .neg t x) (hs : SR C s S σ a w) {k : IntKind} {n : Int} (hx : s.ev x = .one (.lf (.pv (.int k n)))) (h : s.put o.dst (.pv (.int k (k.wrap (0 - n)))) K) : Fine P C o a w K := by
  have e : a.eval x = .int k n := (hx ▸ hs.ev x).int_inv
  exact fine_of (by simp [execOp, ho, e, Op.unary, Op.intArith]) hs (.int _ _) h

theorem fine_nilCheck {x : Operand} (ho : o.op = .nilCheck x) (hs : SR C s S σ a w) {u : Addr} (hx : a.eval x = .pointer (some u)) (h : s.put o.dst (s.ev x) K) : Fine P C o a w K :=
  fine_of (cv := a.eval x) (by simp [execOp, ho, hx]) hs (hs.ev x) h

theorem fine_extract {x : Operand} {k : Nat} (ho : o.op = .extract x k) (hs : SR C s S σ a w) {rs : List RV} (hx : s.ev x = .tup rs) {r : RV} (hk : rs[k]? = some r) (h : s.put o.dst (.one r) K) : Fine P C o a w K := by
  have hv := hs.ev x
  rw [hx] at hv
  cases he : a.eval x with
  | tuple vs =>
    rw [he] at hv
    cases hv with
    | tup hn hh =>
      obtain ⟨v, hv, hr⟩ := hh k r hk
      exact fine_of (by simp [execOp, ho, he, Instr.extract, hv]) hs (.one hr) h
  | _ => rw [he] at hv; cases hv

theorem fine_box {t : Nat} {x : Operand} (ho : o.op = .box t x) (hs : SR C s S σ a w) {cs : List LV} (hc : (s.ev x).cells = some cs)
    (h : (s.new (.box t cs)).put o.dst (.lv (.ptr s.nx 0)) K) : Fine P C o a w K := by
  have hl := (hs.ev x).cells hc
  obtain ⟨σ', hs', hσ, _⟩ := hs.newBox t hl
  refine fine_of (cv := .pointer (some ⟨w.heap.size, 0, none⟩)) ?_ hs' (.one (.lf (.ptr (Nat.lt_succ_self _) hσ))) h
  simp only [execOp, ho]
  exact run_v (by simp [Instr.box, newVar, newRow])

theorem fine_alloc {t : Nat} (ho : o.op = .alloc t) (hs : SR C s S σ a w) {i : TI} {j d z} (ht : TypeOk P t i j d z)
    (h : (s.new (.box t (pvs i.zero))).put o.dst (.lv (.ptr s.nx 0)) K) : Fine P C o a w K := by
  obtain ⟨σ', hs', hσ, _⟩ := hs.newBox t (ht.zls w S σ s.nx)
  refine fine_of (cv := .pointer (some ⟨w.heap.size, 0, none⟩)) ?_ hs' (.one (.lf (.ptr (Nat.lt_succ_self _) hσ))) h
  simp only [execOp, ho]
  exact run_v (by simp [Instr.alloc, ht.run_zero, newVar, newRow])

end
end Go.Proofs.YtijjagkeaehhbaaGreat.Eng

/- The engine's operations are sound: loads, stores, fields, indices, calls. -/
set_option linter.unusedSimpArgs false
set_option linter.unusedVariables false
namespace Go.Proofs.YtijjagkeaehhbaaGreat.Eng
open Go.RowKit (Below)

section
variable {P : Program} {T : Tab} {C : Ctx} {o : Oper} {s : AS} {K : AS → Prop} {S : Nat → Prop} {σ : Nat → Value} {a : Act} {w : World}

theorem run_load_of {t : Nat} {x : Operand} {u cv : Value} (ho : o.op = .load t x) (hx : a.eval x = u) (h : (Instr.loadAt t u).run P w = .ok cv w) : (execOp a.eval o).run P w = .ok (.value cv) w := by
  simp only [execOp, ho, hx]; exact run_v h

theorem fine_load_box {t : Nat} {x : Operand} (ho : o.op = .load t x) (hs : SR C s S σ a w) {i : TI} {j d z} (ht : TypeOk P t i j d z) {id off t' : Nat} {cs : List LV} (hx : s.ev x = .one (.lf (.ptr id off)))
    (hid : s.hp id = some (.box t' cs)) {v : AV} (hv : ofCells i.agg cs off i.size = some v) (h : s.put o.dst v K) : Fine P C o a w K := by
  obtain ⟨_, b, hb, he⟩ := (hx ▸ hs.ev x).ptr_inv
  obtain ⟨b', vs, h1, h2, h3⟩ := hs.hp.obj id _ hid
  rw [hb] at h1
  obtain rfl : b = b' := by simpa using h1
  obtain ⟨cv, hr, hav⟩ := load_cells ht (box_cells h2 h3) hv
  rw [Nat.zero_add] at hr
  exact fine_of (run_load_of ho he hr) hs hav h

theorem fine_load_cp {t : Nat} {x : Operand} (ho : o.op = .load t x) (hs : SR C s S σ a w) {i : TI} {j d z} (ht : TypeOk P t i j d z) {r : List PV} {off : Nat} (hx : s.ev x = .one (.lf (.pv (.cp r off))))
    {v : AV} (hv : ofCells i.agg (pvs r) off i.size = some v) (h : s.put o.dst v K) : Fine P C o a w K := by
  obtain ⟨b, q, f, he, _, hc, _, hp⟩ := (hx ▸ hs.ev x).cp_inv
  obtain ⟨cv, hr, hav⟩ := load_cells (S := S) (σ := σ) (n := s.nx) (w := w) (b := b) (o := q) ht (fun k y hy => by
    obtain ⟨p, hp', rfl⟩ := (pvs_spec r).2.1 k y hy
    have hk : k < r.length := (List.getElem?_eq_some_iff.1 hp').1
    exact ⟨f k, hc k hk, .pv (hp k p hp')⟩) hv
  exact fine_of (run_load_of ho he hr) hs hav h

/-- A row object, laid open. -/
theorem row_open {id t sz : Nat} {rows : List (List PV)} (hs : SR C s S σ a w) (hid : s.hp id = some (.row t sz rows)) :
    (∀ r ∈ rows, r.length = sz) ∧ ∃ xs, w.ownsRow 0 t sz (σ id) rows.length xs ∧ (∀ v ∈ xs, v.oneCell' = true) ∧ ∀ i j r p, rows[i]? = some r → r[j]? = some p → ∃ v, xs[i * sz + j]? = some v ∧ PVR w S p v := hs.hp.obj id _ hid

theorem row_get {id t sz : Nat} {rows : List (List PV)} (hs : SR C s S σ a w) (hid : s.hp id = some (.row t sz rows)) {b m c idx : Nat} (hb : σ id = .slice (some ⟨b, 0, none⟩) m c) {r : List PV} (hr : rows[idx]? = some r) :
    ∀ (k : Nat) y, (pvs r)[k]? = some y → ∃ v, w.cell? ⟨b, idx * sz + k, none⟩ = some v ∧ LVR w S σ s.nx y v := by
  obtain ⟨hl, xs, ho, h1, hx⟩ := row_open hs hid
  intro k y hy
  obtain ⟨p, hp, rfl⟩ := (pvs_spec r).2.1 k y hy
  obtain ⟨v, hv, hpv⟩ := hx idx k r p hr hp
  have hc := ho.cells (g := b) (by rw [hb]; rfl) _ v hv
  rw [add_lit, Nat.zero_add] at hc
  exact ⟨v, hc, .pv hpv⟩

theorem fine_load_rp {t : Nat} {x : Operand} (ho : o.op = .load t x) (hs : SR C s S σ a w) {i : TI} {j d z} (ht : TypeOk P t i j d z) {id sz idx off t' : Nat} {rows : List (List PV)} (hx : s.ev x = .one (.lf (.rp id sz idx off)))
    (hid : s.hp id = some (.row t' sz rows)) {r : List PV} (hr : rows[idx]? = some r) {v : AV} (hv : ofCells i.agg (pvs r) off i.size = some v) (h : s.put o.dst v K) : Fine P C o a w K := by
  obtain ⟨_, b, m, c, hb, he⟩ := (hx ▸ hs.ev x).rp_inv
  obtain ⟨cv, hrun, hav⟩ := load_cells ht (row_get hs hid hb hr) hv
  exact fine_of (run_load_of ho he hrun) hs hav h

/-- Storing a value's cells into a block. -/
theorem run_store_of {t : Nat} {p x : Operand} (ho : o.op = .store t p x) {i : TI} {j d z} (ht : TypeOk P t i j d z) {b off e : Nat} {cur : Array Value} (hp : a.eval p = .pointer (some ⟨b, off, none⟩))
    (hb : w.heap[b]? = some (.cells cur e (0, 0))) (hsz : (a.eval x).cells.size = i.size) (h1 : ∀ v ∈ (a.eval x).cells.toList, v.oneCell' = true) (hfit : off + (a.eval x).cells.size ≤ cur.size) :
    (execOp a.eval o).run P w = .ok .skip (w.setRow b (cur.toList.take off ++ (a.eval x).cells.toList ++ cur.toList.drop (off + (a.eval x).cells.size)).toArray) := by
  have hst := run_storeCells_at P b off e (a.eval x).cells.toList 0 cur w hb (by simpa using hfit) h1
  simp only [Nat.add_zero, Array.length_toList] at hst
  simp only [execOp, ho, hp]
  exact run_u (by simp [Instr.storeAt, Instr.sureAddr, storeVar, ht.run_size, hsz, hst])

theorem LsR.ones {w : World} {S : Nat → Prop} {σ : Nat → Value} {n : Nat} {xs : List LV} {vs : Array Value} (h : LsR w S σ n xs vs) : ∀ v ∈ vs.toList, v.oneCell' = true := by
  intro v hv
  obtain ⟨i, hi, rfl⟩ := List.getElem_of_mem hv
  have hi' : i < xs.length := by have := h.1; simp at hi; omega
  obtain ⟨v', hv', hr⟩ := h.2 i _ (List.getElem?_eq_getElem hi')
  have : vs.toList[i] = v' := by
    have e : vs.toList[i]? = some v' := by simpa using hv'
    rw [List.getElem?_eq_getElem hi] at e
    exact Option.some.inj e
  rw [this]
  exact hr.one

theorem LsR.splice {w : World} {S : Nat → Prop} {σ : Nat → Value} {n : Nat} {cs xs : List LV} {cur vs : Array Value} {off : Nat} (hc : LsR w S σ n cs cur) (hx : LsR w S σ n xs vs) (hfit : off + xs.length ≤ cs.length) :
    LsR w S σ n (splice cs off xs) (cur.toList.take off ++ vs.toList ++ cur.toList.drop (off + vs.size)).toArray := by
  have hl := hc.1
  have hv := hx.1
  refine ⟨by simp [Eng.splice]; omega, fun i x hi => ?_⟩
  unfold Eng.splice at hi
  have hgoal : ∀ v, (cur.toList.take off ++ vs.toList ++ cur.toList.drop (off + vs.size))[i]? = some v → (cur.toList.take off ++ vs.toList ++ cur.toList.drop (off + vs.size)).toArray[i]? = some v := fun v h => by simpa using h
  by_cases h1 : i < off
  · rw [List.getElem?_append_left (by simp; omega), List.getElem?_take_of_lt h1] at hi
    obtain ⟨v, h2, h3⟩ := hc.2 i x hi
    refine ⟨v, hgoal v ?_, h3⟩
    rw [List.append_assoc, List.getElem?_append_left (by simp; omega), List.getElem?_take_of_lt h1]
    simpa using h2
  · by_cases h2 : i < off + xs.length
    · rw [List.getElem?_append_right (by simp; omega)] at hi
      rw [List.getElem?_append_left (by simp; omega)] at hi
      have e : i - (List.take off cs).length = i - off := by simp; omega
      rw [e] at hi
      obtain ⟨v, h3, h4⟩ := hx.2 (i - off) x hi
      refine ⟨v, hgoal v ?_, h4⟩
      rw [List.append_assoc, List.getElem?_append_right (by simp; omega), List.getElem?_append_left (by simp; omega)]
      have e' : i - (List.take off cur.toList).length = i - off := by simp; omega
      rw [e']
      simpa using h3
    · rw [List.getElem?_append_right (by simp; omega), List.getElem?_append_right (by simp; omega), List.getElem?_drop] at hi
      have e : off + xs.length + (i - (List.take off cs).length - xs.length) = i := by simp; omega
      rw [e] at hi
      obtain ⟨v, h3, h4⟩ := hc.2 i x hi
      refine ⟨v, hgoal v ?_, h4⟩
      rw [List.append_assoc, List.getElem?_append_right (by simp; omega), List.getElem?_append_right (by simp; omega), List.getElem?_drop]
      have e' : off + vs.size + (i - (List.take off cur.toList).length - vs.toList.length) = i := by simp; omega
      rw [e']
      simpa using h3

theorem fine_store_box {t : Nat} {p x : Operand} (ho : o.op = .store t p x) (hs : SR C s S σ a w) {i : TI} {j d z} (ht : TypeOk P t i j d z) {xs : List LV} (hxs : (s.ev x).cells = some xs) (hsz : xs.length = i.size)
    {id off t' : Nat} {cs : List LV} (hp : s.ev p = .one (.lf (.ptr id off))) (hid : s.hp id = some (.box t' cs)) (hfit : off + xs.length ≤ cs.length)
    (h : (s.setO id (.box t' (splice cs off xs))).put o.dst .any K) : Fine P C o a w K := by
  obtain ⟨_, b, hb, he⟩ := (hp ▸ hs.ev p).ptr_inv
  obtain ⟨b', vs, h1, h2, h3⟩ := hs.hp.obj id _ hid
  have h1' := h1
  rw [hb] at h1
  obtain rfl : b = b' := by simpa using h1
  have hl := (hs.ev x).cells hxs
  have hl1 := hl.1
  have h31 := h3.1
  refine fine_skip (run_store_of ho ht he h2 (by omega) hl.ones (by omega)) (hs.write hid (b := b) (by rw [hb]; rfl) (fun k hk => setRow_other w b k _ hk) (by simp) rfl rfl rfl ?_) h
  have hk : ∀ k, S k → (w.setRow b (vs.toList.take off ++ (a.eval x).cells.toList ++ vs.toList.drop (off + (a.eval x).cells.size)).toArray).heap[k]? = w.heap[k]? := fun k hS =>
    setRow_other w b k _ (fun e => hs.hp.notS id _ b hid (by rw [hb]; rfl) (e ▸ hS))
  exact ⟨b, _, hb, setRow_heap w b vs _ t' (0, 0) h2, (h3.splice hl hfit).mono hk (fun _ h => h) (fun _ _ => rfl) (Nat.le_refl _)⟩

theorem run_fieldAt {t f : Nat} {i : TI} {j d z} (ht : TypeOk P t i j d z) {fo : Nat × Nat × Bool} (hf : i.fo[f]? = some fo) (b off : Nat) (w : World) :
    (Instr.fieldAt t (.pointer (some ⟨b, off, none⟩)) f).run P w = .ok (.pointer (some ⟨b, off + fo.1, none⟩)) w := by
  obtain ⟨fs, ft, q, e, hd, hft, h1, h2, h3, h4, h5, h6⟩ := ht.fo f fo hf
  subst hd
  have hsz : (sizeOf ft.type).run P w = .ok q.size w := by simp [sizeOf, typeInfo, h2]
  have hq : ¬ q.size = 0 := by omega
  simp [Instr.fieldAt, ht.run_und, hft, Instr.sureAddr, fieldPlace, hsz, hq, h1, add_lit]

theorem fine_fieldAddr {t f : Nat} {x : Operand} (ho : o.op = .fieldAddr t x f) (hs : SR C s S σ a w) {i : TI} {j d z} (ht : TypeOk P t i j d z) {fo : Nat × Nat × Bool} (hf : i.fo[f]? = some fo)
    (h : match s.ev x with
      | .one (.lf (.ptr id off)) => s.put o.dst (.lv (.ptr id (off + fo.1))) K
      | .one (.lf (.rp id sz idx off)) => s.put o.dst (.lv (.rp id sz idx (off + fo.1))) K
      | .one (.lf (.pv (.cp r off))) => s.put o.dst (.pv (.cp r (off + fo.1))) K
      | _ => False) : Fine P C o a w K := by
  have hx := hs.ev x
  split at h
  · rename_i id off e
    rw [e] at hx
    obtain ⟨hn, b, hb, he⟩ := hx.ptr_inv
    refine fine_of (cv := .pointer (some ⟨b, off + fo.1, none⟩)) ?_ hs (.one (.lf (.ptr hn hb))) h
    simp only [execOp, ho, he]; exact run_v (run_fieldAt ht hf b off w)
  · rename_i id sz idx off e
    rw [e] at hx
    obtain ⟨hn, b, m, c, hb, he⟩ := hx.rp_inv
    refine fine_of (cv := .pointer (some ⟨b, idx * sz + (off + fo.1), none⟩)) ?_ hs (.one (.lf (.rp hn hb))) h
    simp only [execOp, ho, he]; rw [← Nat.add_assoc]; exact run_v (run_fieldAt ht hf b _ w)
  · rename_i r off e
    rw [e] at hx
    obtain ⟨b, q, f', he, hS, hc, h1, hp⟩ := hx.cp_inv
    refine fine_of (cv := .pointer (some ⟨b, q + (off + fo.1), none⟩)) ?_ hs (.one (.lf (.pv (.cp r _ b q f' hS hc h1 hp)))) h
    simp only [execOp, ho, he]; rw [← Nat.add_assoc]; exact run_v (run_fieldAt ht hf b _ w)
  · exact h.elim

theorem fine_field {t f : Nat} {x : Operand} (ho : o.op = .field t x f) (hs : SR C s S σ a w) {i : TI} {j d z} (ht : TypeOk P t i j d z) {fo : Nat × Nat × Bool} (hf : i.fo[f]? = some fo)
    {xs : List LV} (hx : s.ev x = .one (.agg xs)) {v : AV} (hv : ofCells fo.2.2 xs fo.1 fo.2.1 = some v) (h : s.put o.dst v K) : Fine P C o a w K := by
  obtain ⟨fs, ft, q, e, hd, hft, h1, h2, h3, h4, h5, h6⟩ := ht.fo f fo hf
  subst hd
  have hr := hs.ev x
  rw [hx] at hr
  cases hev : a.eval x with
  | agg vs =>
    rw [hev] at hr
    have hl : LsR w S σ s.nx xs vs := by cases hr with | one hr => cases hr with | agg hl => exact hl
    have hsz : (sizeOf ft.type).run P w = .ok fo.2.1 w := by simp [sizeOf, typeInfo, h2, h4]
    have hag : (isAgg ft.type).run P w = .ok fo.2.2 w := by
      rw [← h5]
      unfold isAgg
      rw [Sem.run_bind, run_underlying h3]
      simp only [Result.andThen_ok]
      cases e <;> rfl
    unfold ofCells at hv
    split at hv
    · rename_i hb
      split at hv
      · rename_i hle
        cases hv
        have hle := Nat.le_of_ble_eq_true hle
        refine fine_of (cv := .agg (vs.extract fo.1 (fo.1 + fo.2.1))) ?_ hs (.one (.agg ⟨?_, fun k y hy => ?_⟩)) h
        · simp only [execOp, ho, hev]
          exact run_v (by simp [Instr.field, ht.run_und, hft, part, hag, hb, asAgg, hsz, h1])
        · have := hl.1; simp; omega
        · rw [List.getElem?_take] at hy
          split at hy
          · rename_i hk
            rw [List.getElem?_drop] at hy
            obtain ⟨v, h7, h8⟩ := hl.2 _ y hy
            have h71 : fo.1 + k < vs.size := (Array.getElem?_eq_some_iff.1 h7).1
            exact ⟨v, by rw [Array.getElem?_extract]; rw [if_pos (by omega)]; exact h7, h8⟩
          · cases hy
      · cases hv
    · rename_i hb
      split at hv
      · rename_i y hy
        cases hv
        obtain ⟨v, h7, h8⟩ := hl.2 _ y hy
        refine fine_of (cv := v) ?_ hs (.one (.lf h8)) h
        simp only [execOp, ho, hev]
        exact run_v (by simp [Instr.field, ht.run_und, hft, part, hag, hb, asAgg, h1, h7])
      · cases hv
  | _ => rw [hev] at hr; cases hr with | one hr => cases hr

end
end Go.Proofs.YtijjagkeaehhbaaGreat.Eng

/- The engine's operations are sound: rows, indices, literals, closures. -/
set_option linter.unusedSimpArgs false
set_option linter.unusedVariables false
namespace Go.Proofs.YtijjagkeaehhbaaGreat.Eng
open Go.RowKit (Below)

section
variable {P : Program} {T : Tab} {C : Ctx} {o : Oper} {s : AS} {K : AS → Prop} {S : Nat → Prop} {σ : Nat → Value} {a : Act} {w : World}

theorem flat_lt {i j n sz : Nat} (hi : i < n) (hj : j < sz) : i * sz + j < n * sz := by
  have : i * sz + sz ≤ n * sz := by rw [← Nat.succ_mul]; exact Nat.mul_le_mul_right _ hi
  omega
theorem flat_ne {i j i' j' sz : Nat} (hj : j < sz) (hj' : j' < sz) (h : i * sz + j = i' * sz + j') : i = i' ∧ j = j' := by
  have hs : 0 < sz := by omega
  have h1 : (i * sz + j) / sz = i := by rw [Nat.mul_comm, Nat.mul_add_div hs, Nat.div_eq_of_lt hj, Nat.add_zero]
  have h2 : (i' * sz + j') / sz = i' := by rw [Nat.mul_comm, Nat.mul_add_div hs, Nat.div_eq_of_lt hj', Nat.add_zero]
  have : i = i' := by rw [← h1, ← h2, h]
  subst this
  exact ⟨rfl, by omega⟩

theorem splicePV_get (r ps : List PV) (off k : Nat) (hfit : off + ps.length ≤ r.length) : (splicePV r off ps)[k]? = if off ≤ k ∧ k < off + ps.length then ps[k - off]? else r[k]? := by
  unfold splicePV
  by_cases h1 : k < off
  · rw [List.getElem?_append_left (by simp; omega), List.getElem?_take_of_lt h1, if_neg (by omega)]
  · by_cases h2 : k < off + ps.length
    · rw [List.getElem?_append_right (by simp; omega), List.getElem?_append_left (by simp; omega), if_pos (by omega)]
      congr 1
      simp; omega
    · rw [List.getElem?_append_right (by simp; omega), List.getElem?_append_right (by simp; omega), List.getElem?_drop, if_neg (by omega)]
      congr 1
      simp; omega
theorem splicePV_len (r ps : List PV) (off : Nat) (hfit : off + ps.length ≤ r.length) : (splicePV r off ps).length = r.length := by unfold splicePV; simp; omega

theorem fine_store_rp {t : Nat} {p x : Operand} (ho : o.op = .store t p x) (hs : SR C s S σ a w) {i : TI} {j d z} (ht : TypeOk P t i j d z) {ps : List PV} (hxs : (s.ev x).cells = some (pvs ps)) (hsz : (pvs ps).length = i.size)
    {id sz idx off t' : Nat} {rows : List (List PV)} (hp : s.ev p = .one (.lf (.rp id sz idx off))) (hid : s.hp id = some (.row t' sz rows)) {r : List PV} (hr : rows[idx]? = some r) (hfit : off + ps.length ≤ r.length)
    (h : (s.setO id (.row t' sz (rows.set idx (splicePV r off ps)))).put o.dst .any K) : Fine P C o a w K := by
  obtain ⟨_, b, m, c, hb, he⟩ := (hp ▸ hs.ev p).rp_inv
  obtain ⟨hrl, xs, hown, h1, hx⟩ := row_open hs hid
  have hl := (hs.ev x).cells hxs
  have hlen : (a.eval x).cells.size = ps.length := by rw [hl.1, (pvs_spec ps).1]
  rw [(pvs_spec ps).1] at hsz
  have hidx : idx < rows.length := (List.getElem?_eq_some_iff.1 hr).1
  have hrsz : r.length = sz := hrl r (List.mem_of_getElem? hr)
  obtain ⟨hxl, hown2⟩ := hown
  rcases hown2 with ⟨h4, _⟩ | ⟨g, cap, cur, hv, hg, hh, hnc, hcm, hcs, htake⟩
  · rw [hb] at h4; cases h4
  · rw [hb] at hv
    obtain ⟨rfl, rfl, rfl⟩ : b = g ∧ m = rows.length ∧ c = cap := by simpa using hv
    have hin : idx * sz + (off + ps.length) ≤ rows.length * sz := by
      have : idx * sz + sz ≤ rows.length * sz := by rw [← Nat.succ_mul]; exact Nat.mul_le_mul_right _ hidx
      omega
    have hcap : rows.length * sz ≤ c * sz := Nat.mul_le_mul_right _ hnc
    refine fine_skip (run_store_of ho ht he hh (by omega) hl.ones (by omega)) (hs.write hid (b := b) (by rw [hb]; rfl) (fun k hk => setRow_other w b k _ hk) (by simp) rfl rfl rfl ?_) h
    have hk : ∀ k, S k → (w.setRow b (cur.toList.take (idx * sz + off) ++ (a.eval x).cells.toList ++ cur.toList.drop (idx * sz + off + (a.eval x).cells.size)).toArray).heap[k]? = w.heap[k]? := fun k hS =>
      setRow_other w b k _ (fun e => hs.hp.notS id _ b hid (by rw [hb]; rfl) (e ▸ hS))
    have hnew : ∀ q, (cur.toList.take (idx * sz + off) ++ (a.eval x).cells.toList ++ cur.toList.drop (idx * sz + off + (a.eval x).cells.size))[q]? =
        if idx * sz + off ≤ q ∧ q < idx * sz + off + ps.length then (a.eval x).cells.toList[q - (idx * sz + off)]? else cur.toList[q]? := by
      intro q
      have hcl : cur.toList.length = c * sz := by simpa using hcs
      rw [List.append_assoc]
      by_cases h1 : q < idx * sz + off
      · rw [List.getElem?_append_left (by simp; omega), List.getElem?_take_of_lt h1, if_neg (by omega)]
      · by_cases h2 : q < idx * sz + off + ps.length
        · rw [List.getElem?_append_right (by simp; omega), List.getElem?_append_left (by simp; omega), if_pos (by omega)]
          congr 1
          simp; omega
        · rw [List.getElem?_append_right (by simp; omega), List.getElem?_append_right (by simp; omega), List.getElem?_drop, if_neg (by omega)]
          congr 1
          simp; omega
    have hcl : cur.toList.length = c * sz := by simpa using hcs
    refine ⟨fun q hq => ?_, (cur.toList.take (idx * sz + off) ++ (a.eval x).cells.toList ++ cur.toList.drop (idx * sz + off + (a.eval x).cells.size)).take (rows.length * sz), ⟨?_, .inr ⟨b, c, _, ?_, Nat.zero_le _, setRow_heap w b cur _ t' (0, 0) hh, ?_, hcm, ?_, ?_⟩⟩, ?_, ?_⟩
    · rcases List.mem_or_eq_of_mem_set hq with h6 | h6
      · exact hrl q h6
      · rw [h6, splicePV_len r ps off hfit, hrsz]
    · simp; omega
    · rw [hb]; simp
    · simpa using hnc
    · simp; omega
    · simp
    · intro v hv
      obtain ⟨q, hq, rfl⟩ := List.getElem_of_mem hv
      have hq2 := hnew q
      rw [List.getElem_take]
      rw [List.length_take] at hq
      have hq3 : q < (cur.toList.take (idx * sz + off) ++ (a.eval x).cells.toList ++ cur.toList.drop (idx * sz + off + (a.eval x).cells.size)).length := by omega
      rw [List.getElem?_eq_getElem hq3] at hq2
      split at hq2
      · exact hl.ones _ (List.mem_of_getElem? hq2.symm)
      · refine h1 _ (List.mem_of_getElem? (i := q) ?_)
        rw [← htake, List.getElem?_take_of_lt (by omega)]
        exact hq2.symm
    · intro i' j' r' p hi' hj'
      rw [List.getElem?_set] at hi'
      have hset : ∀ q, i' * sz + j' < rows.length * sz → (cur.toList.take (idx * sz + off) ++ (a.eval x).cells.toList ++ cur.toList.drop (idx * sz + off + (a.eval x).cells.size))[i' * sz + j']? = some q →
          ((cur.toList.take (idx * sz + off) ++ (a.eval x).cells.toList ++ cur.toList.drop (idx * sz + off + (a.eval x).cells.size)).take (rows.length * sz))[i' * sz + j']? = some q := fun q hlt hq => by
        rw [List.getElem?_take_of_lt hlt]; exact hq
      split at hi'
      · rename_i e
        subst e
        simp only [hidx, if_true, Option.some.injEq] at hi'
        subst hi'
        have hj'l : j' < sz := by have := (List.getElem?_eq_some_iff.1 hj').1; rw [splicePV_len r ps off hfit] at this; omega
        rw [splicePV_get r ps off j' hfit] at hj'
        split at hj'
        · rename_i hr2
          obtain ⟨v, h6, h7⟩ := hl.2 (j' - off) _ ((pvs_spec ps).2.2 _ p hj')
          refine ⟨v, hset v (flat_lt hidx hj'l) ?_, ?_⟩
          · rw [hnew, if_pos (by omega)]
            have e2 : idx * sz + j' - (idx * sz + off) = j' - off := by omega
            rw [e2]
            simpa using h6
          · cases h7 with | pv h7 => exact h7.mono hk (fun _ h => h)
        · rename_i hr2
          obtain ⟨v, h6, h7⟩ := hx idx j' r p hr hj'
          refine ⟨v, hset v (flat_lt hidx hj'l) ?_, h7.mono hk (fun _ h => h)⟩
          rw [hnew, if_neg (by omega)]
          rw [← htake, List.getElem?_take_of_lt (flat_lt hidx hj'l)] at h6
          exact h6
      · rename_i hne
        have hi'l : i' < rows.length := (List.getElem?_eq_some_iff.1 hi').1
        have hj'l : j' < sz := by have := (List.getElem?_eq_some_iff.1 hj').1; have := hrl r' (List.mem_of_getElem? hi'); omega
        obtain ⟨v, h6, h7⟩ := hx i' j' r' p hi' hj'
        refine ⟨v, hset v (flat_lt hi'l hj'l) ?_, h7.mono hk (fun _ h => h)⟩
        rw [hnew, if_neg ?_]
        · rw [← htake, List.getElem?_take_of_lt (flat_lt hi'l hj'l)] at h6
          exact h6
        · intro hh2
          have e3 := flat_ne (i := i') (j := j') (i' := idx) (j' := i' * sz + j' - idx * sz) hj'l (by omega) (by omega)
          exact hne e3.1.symm

theorem run_indexAt {t e : Nat} {i ie : TI} {j d z j' d' z'} (ht : TypeOk P t i j d z) (hel : i.el = some e) (hte : TypeOk P e ie j' d' z') {k : IntKind} {n : Int} {b off len cap : Nat} (h0 : 0 ≤ n) (h1 : n < len) (w : World) :
    (Instr.indexAt t (.slice (some ⟨b, off, none⟩) len cap) (.int k n)).run P w = .ok (.pointer (some ⟨b, off + n.toNat * ie.size, none⟩)) w := by
  have hd := ht.el e hel
  subst hd
  simp [Instr.indexAt, asIntOf, ht.run_und, h0, h1, hte.run_size, add_lit]

theorem fine_index_vs {t e : Nat} {x ix : Operand} (ho : o.op = .indexAddr t x ix) (hs : SR C s S σ a w) {i ie : TI} {j d z j' d' z'} (ht : TypeOk P t i j d z) (hel : i.el = some e) (hte : TypeOk P e ie j' d' z')
    {sz : Nat} {rows : List (List PV)} {k : IntKind} {n : Int} (hx : s.ev x = .one (.lf (.pv (.vs sz rows)))) (hix : s.ev ix = .one (.lf (.pv (.int k n)))) {r : List PV} (h0 : 0 ≤ n) (hr : rows[n.toNat]? = some r) (hsz : sz = ie.size)
    (h : s.put o.dst (.pv (.cp r 0)) K) : Fine P C o a w K := by
  have hi : a.eval ix = .int k n := (hix ▸ hs.ev ix).int_inv
  have hv := (hx ▸ hs.ev x).pv_inv
  have hlt : n.toNat < rows.length := (List.getElem?_eq_some_iff.1 hr).1
  generalize hev : a.eval x = v at hv
  cases hv with
  | vs _ _ A cap f hc hm hN hl hA h1 hp =>
    obtain ⟨b, q, rfl, hS, hcell⟩ := hA (by intro e; rw [e] at hlt; simp at hlt)
    have hrl : r.length = sz := hl r (List.mem_of_getElem? hr)
    refine fine_of (cv := .pointer (some ⟨b, q + n.toNat * sz, none⟩)) ?_ hs (.one (.lf (.pv (.cp r 0 b (q + n.toNat * sz) (fun j => f n.toNat j) hS ?_ ?_ ?_)))) h
    · simp only [execOp, ho, hev, hi, hsz]
      exact run_v (run_indexAt ht hel hte h0 (by omega) w)
    · intro j hj
      have := hcell n.toNat j hlt (by omega)
      rwa [← Nat.add_assoc] at this
    · exact fun j hj => h1 n.toNat j hlt (by omega)
    · exact fun j p hj => hp n.toNat j r p hr hj

theorem fine_index_sl {t e : Nat} {x ix : Operand} (ho : o.op = .indexAddr t x ix) (hs : SR C s S σ a w) {i ie : TI} {j d z j' d' z'} (ht : TypeOk P t i j d z) (hel : i.el = some e) (hte : TypeOk P e ie j' d' z')
    {id t' sz : Nat} {rows : List (List PV)} {k : IntKind} {n : Int} (hx : s.ev x = .one (.lf (.sl id))) (hid : s.hp id = some (.row t' sz rows)) (hix : s.ev ix = .one (.lf (.pv (.int k n)))) (h0 : 0 ≤ n) (h1 : n < rows.length) (hsz : sz = ie.size)
    (h : s.put o.dst (.lv (.rp id sz n.toNat 0)) K) : Fine P C o a w K := by
  have hi : a.eval ix = .int k n := (hix ▸ hs.ev ix).int_inv
  obtain ⟨hn, hv⟩ := (hx ▸ hs.ev x).sl_inv
  obtain ⟨_, xs, hown, _, _⟩ := row_open hs hid
  rcases hown.2 with ⟨_, h5⟩ | ⟨g, cap, cur, hsl, _⟩
  · omega
  · refine fine_of (cv := .pointer (some ⟨g, n.toNat * sz + 0, none⟩)) ?_ hs (.one (.lf (.rp hn hsl))) h
    simp only [execOp, ho, hv, hi, hsl]
    have := run_indexAt (k := k) (b := g) (off := 0) (len := rows.length) (cap := cap) ht hel hte h0 h1 w
    rw [Nat.zero_add, ← hsz] at this
    exact run_v this

theorem fine_index_str {t : Nat} {x ix : Operand} (ho : o.op = .index t x ix) (hs : SR C s S σ a w) {i : TI} {j d z} (ht : TypeOk P t i j d z) (hstr : i.str = true)
    {b : ByteArray} {k : IntKind} {n : Int} (hx : s.ev x = .one (.lf (.pv (.str b)))) (hix : s.ev ix = .one (.lf (.pv (.int k n)))) {c : UInt8} (h0 : 0 ≤ n) (hc : b[n.toNat]? = some c)
    (h : s.put o.dst (.pv (.int .u8 c.toNat)) K) : Fine P C o a w K := by
  have hi : a.eval ix = .int k n := (hix ▸ hs.ev ix).int_inv
  have hv : a.eval x = .string b := (hx ▸ hs.ev x).str_inv
  have hd := ht.str hstr
  subst hd
  refine fine_of (cv := .int .u8 c.toNat) ?_ hs (.int _ _) h
  simp only [execOp, ho, hv, hi]
  exact run_v (by simp [Instr.index, asIntOf, ht.run_und, h0, hc])

theorem ids?_spec {w S σ n} : ∀ {l : List AV} {ids : List Nat} {vs : List Value}, ids? l = some ids → vs.length = l.length → (∀ (i : Nat) x, l[i]? = some x → ∃ v, vs[i]? = some v ∧ AVR w S σ n x v) → (∀ id b, σ id = .pointer (some ⟨b, 0, none⟩) → True) → vs = ids.map σ ∧ ∀ i ∈ ids, i < n ∧ ∃ b, σ i = .pointer (some ⟨b, 0, none⟩)
  | [], ids, vs, h, hl, _, _ => by
    simp only [ids?, Option.some.injEq] at h
    subst h
    exact ⟨List.eq_nil_of_length_eq_zero (by simpa using hl), fun i hi => by simp at hi⟩
  | x :: r, ids, vs, h, hl, hv, hσ => by
    unfold ids? at h
    split at h
    · rename_i heq; cases heq
    · rename_i id r' heq
      injection heq with h1 h2
      subst h1 h2
      split at h
      · rename_i q hq
        cases h
        match vs, hl with
        | v :: vs, hl =>
          obtain ⟨v0, h3, h4⟩ := hv 0 _ rfl
          simp only [List.getElem?_cons_zero, Option.some.injEq] at h3
          subst h3
          obtain ⟨hn, b, hb, rfl⟩ := h4.ptr_inv
          obtain ⟨h5, h6⟩ := ids?_spec (vs := vs) hq (by simpa using hl) (fun i x hi => by simpa using hv (i + 1) x (by simpa using hi)) hσ
          refine ⟨by rw [h5]; simp [hb], fun i hi => ?_⟩
          rcases List.mem_cons.1 hi with rfl | hi
          · exact ⟨hn, b, hb⟩
          · exact h6 i hi
      · cases h
    · cases h

theorem map_rel (hs : SR C s S σ a w) (l : List Operand) : (l.map a.eval).length = (l.map s.ev).length ∧ ∀ (i : Nat) x, (l.map s.ev)[i]? = some x → ∃ v, (l.map a.eval)[i]? = some v ∧ AVR w S σ s.nx x v := by
  refine ⟨by simp, fun i x hi => ?_⟩
  rw [List.getElem?_map] at hi
  cases hq : l[i]? with
  | none => simp [hq] at hi
  | some q =>
    simp only [hq, Option.map_some, Option.some.injEq] at hi
    subst hi
    exact ⟨a.eval q, by simp [hq], hs.ev q⟩

theorem fine_makeFunc {g : Nat} {first caps : Array Operand} (ho : o.op = .makeFunc (.func g) first caps) (hs : SR C s S σ a w) (hf : first.toList = []) {ids : List Nat} (hc : ids? (caps.toList.map s.ev) = some ids)
    (h : s.put o.dst (.lv (.clo g ids)) K) : Fine P C o a w K := by
  obtain ⟨h1, h2⟩ := map_rel hs caps.toList
  obtain ⟨h3, h4⟩ := ids?_spec hc h1 h2 (fun _ _ _ => trivial)
  have hf' : first = #[] := by simpa using hf
  refine fine_of (cv := .func (.func g) #[] (ids.map σ).toArray) ?_ hs (.one (.lf (.clo h4))) h
  simp only [execOp, ho, hf']
  have : (caps.map a.eval) = (ids.map σ).toArray := by
    rw [← h3, ← Array.toList_map, Array.toArray_toList]
  exact run_v (by simp [Instr.makeFunc, this])

end
end Go.Proofs.YtijjagkeaehhbaaGreat.Eng

/- The engine's operations are sound: literals, new rows, append, len, and all together. -/
set_option linter.unusedSimpArgs false
set_option linter.unusedVariables false
namespace Go.Proofs.YtijjagkeaehhbaaGreat.Eng
open Go.RowKit (Below)

section
variable {P : Program} {T : Tab} {C : Ctx} {o : Oper} {s : AS} {K : AS → Prop} {S : Nat → Prop} {σ : Nat → Value} {a : Act} {w : World}

theorem fold_set (off : Nat) : ∀ (l : List Value) (k : Nat) (cells : Array Value), off + k + l.length ≤ cells.size →
    ((l.zipIdx k).foldl (fun cs p => cs.setIfInBounds (off + p.2) p.1) cells).toList = cells.toList.take (off + k) ++ l ++ cells.toList.drop (off + k + l.length)
  | [], k, cells, _ => by simp
  | v :: l, k, cells, h => by
    simp only [List.zipIdx_cons, List.foldl_cons]
    simp only [List.length_cons] at h
    rw [fold_set off l (k + 1) _ (by simp; omega)]
    have hk : off + k < cells.toList.length := by simp; omega
    simp only [Array.toList_setIfInBounds]
    have e1 : (cells.toList.set (off + k) v).take (off + (k + 1)) = cells.toList.take (off + k) ++ [v] := by
      rw [show off + (k + 1) = off + k + 1 from by omega, List.take_succ_eq_append_getElem (by simpa using hk), List.take_set_of_le (Nat.le_refl _)]
      simp
    have e2 : (cells.toList.set (off + k) v).drop (off + (k + 1) + l.length) = cells.toList.drop (off + k + (v :: l).length) := by
      rw [List.drop_set_of_lt (by omega)]
      congr 1
      simp; omega
    rw [e1, e2]
    simp

theorem fill_sound {w S σ n} (place : Nat → Option (Nat × Nat)) : ∀ (parts : List (Nat × AV)) (parts' : List (Nat × Value)) (cs cs' : List LV) (arr : Array Value), LsR w S σ n cs arr → parts'.length = parts.length →
    (∀ (i : Nat) k x, parts[i]? = some (k, x) → ∃ v, parts'[i]? = some (k, v) ∧ AVR w S σ n x v) → fillA place cs parts = some cs' → ∃ arr', Instr.fill place arr parts' = some arr' ∧ LsR w S σ n cs' arr'
  | [], [], cs, cs', arr, hl, _, _, h => by
    simp only [fillA, Option.some.injEq] at h
    subst h
    exact ⟨arr, rfl, hl⟩
  | (k, x) :: parts, (k', v) :: parts', cs, cs', arr, hl, hlen, hv, h => by
    obtain ⟨v0, h1, h2⟩ := hv 0 k x rfl
    simp only [List.getElem?_cons_zero, Option.some.injEq, Prod.mk.injEq] at h1
    obtain ⟨rfl, rfl⟩ := h1
    simp only [fillA] at h
    split at h
    · rename_i off size xs hp hc
      split at h
      · rename_i e1 e2
        have e1 := Nat.eq_of_beq_eq_true e1
        have e2 := Nat.le_of_ble_eq_true e2
        have hx := h2.cells hc
        have hs1 := hx.1
        have hs2 := hl.1
        have hfold : (v.cells.zipIdx.foldl (fun cs (c, j) => cs.setIfInBounds (off + j) c) arr) = (arr.toList.take off ++ v.cells.toList ++ arr.toList.drop (off + v.cells.size)).toArray := by
          apply Array.toList_inj.1
          have := fold_set off v.cells.toList 0 arr (by simp; omega)
          simp only [Nat.add_zero, Array.length_toList] at this
          rw [← this, ← Array.foldl_toList, Array.toList_zipIdx]
        obtain ⟨arr', h3, h4⟩ := fill_sound place parts parts' _ cs' _ (hl.splice hx (by omega)) (by simpa using hlen) (fun i k x hi => by simpa using hv (i + 1) k x (by simpa using hi)) h
        refine ⟨arr', ?_, h4⟩
        simp only [Instr.fill, hp]
        rw [if_neg (by simp; omega), hfold]
        exact h3
      · cases h
    · cases h
  | [], _ :: _, _, _, _, _, hlen, _, _ => by simp at hlen
  | _ :: _, [], _, _, _, _, hlen, _, _ => by simp at hlen

theorem parts_rel (hs : SR C s S σ a w) (ps : Array (Nat × Operand)) : ((ps.map fun (i, x) => (i, a.eval x)).toList.length = (ps.toList.map fun p => (p.1, s.ev p.2)).length) ∧
    ∀ (i : Nat) k x, (ps.toList.map fun p => (p.1, s.ev p.2))[i]? = some (k, x) → ∃ v, (ps.map fun (i, x) => (i, a.eval x)).toList[i]? = some (k, v) ∧ AVR w S σ s.nx x v := by
  refine ⟨by simp, fun i k x hi => ?_⟩
  rw [List.getElem?_map] at hi
  cases hq : ps.toList[i]? with
  | none => simp [hq] at hi
  | some q =>
    simp only [hq, Option.map_some, Option.some.injEq, Prod.mk.injEq] at hi
    obtain ⟨rfl, rfl⟩ := hi
    refine ⟨a.eval q.2, ?_, hs.ev q.2⟩
    rw [Array.toList_map, List.getElem?_map, hq]
    rfl

theorem mapM_zip : ∀ (fs : List Field) (fo : List (Nat × Nat × Bool)), fs.length = fo.length → (∀ (k : Nat) (o : Nat × Nat × Bool), fo[k]? = some o → ∃ (ft : Field) (q : TypeInfo), fs[k]? = some ft ∧ ft.offset = o.1 ∧ P.info? ft.type = some q ∧ q.size = o.2.1) →
    fs.mapM (fun f => (P.info? f.type).map fun i => (f.offset, i.size)) = some (fo.map fun o => (o.1, o.2.1))
  | [], [], _, _ => rfl
  | f :: fs, o :: fo, hl, h => by
    obtain ⟨ft, q, h1, h2, h3, h4⟩ := h 0 o rfl
    simp only [List.getElem?_cons_zero, Option.some.injEq] at h1
    subst h1
    have ih := mapM_zip fs fo (by simpa using hl) (fun k o ho => by simpa using h (k + 1) o (by simpa using ho))
    simp [List.mapM_cons, h3, ih, h2, h4]
  | [], _ :: _, hl, _ => by simp at hl
  | _ :: _, [], hl, _ => by simp at hl

theorem fine_build {t : Nat} {parts : Array (Nat × Operand)} (ho : o.op = .build t parts) (hs : SR C s S σ a w) {i : TI} {j d z} (ht : TypeOk P t i j d z) {cs : List LV}
    (hf : fillA (fun k => i.fo[k]?.map fun fo => (fo.1, fo.2.1)) (pvs i.zero) (parts.toList.map fun p => (p.1, s.ev p.2)) = some cs) (hstr : ∃ fs, d = .struct fs) (h : s.put o.dst (.agg cs) K) : Fine P C o a w K := by
  obtain ⟨fs, rfl⟩ := hstr
  obtain ⟨h1, h2⟩ := parts_rel hs parts
  obtain ⟨arr, h3, h4⟩ := fill_sound _ _ _ _ _ _ (ht.zls w S σ s.nx) h1 h2 hf
  refine fine_of (cv := .agg arr) ?_ hs (.one (.agg h4)) h
  simp only [execOp, ho]
  refine run_v (run_build w t _ arr ?_)
  have hlen : fs.toList.length = i.fo.length := by
    have h5 := ht.fs fs rfl i.fo.length
    have h6 := fun k (hk : k < i.fo.length) => ht.fs fs rfl k
    rw [List.getElem?_eq_none (Nat.le_refl _)] at h5
    have h7 : fs.size ≤ i.fo.length := by
      rcases Nat.lt_or_ge i.fo.length fs.size with h | h
      · rw [Array.getElem?_eq_getElem h] at h5; cases h5
      · exact h
    rcases Nat.eq_or_lt_of_le h7 with h8 | h8
    · simpa using h8
    · have h9 := h6 fs.size h8
      rw [Array.getElem?_eq_none (Nat.le_refl _), List.getElem?_eq_getElem h8] at h9
      cases h9
  have hm := mapM_zip (P := P) fs.toList i.fo hlen (fun k o hk => by
    obtain ⟨fs', ft, q, e, hd, hft, h5, h6, _, h7, _, _⟩ := ht.fo k o hk
    injection hd with hd
    subst hd
    exact ⟨ft, q, by simpa using hft, h5, h6, h7⟩)
  unfold Program.built
  simp only [ht.info, ht.und, ht.zero, hm]
  have hfn : ((i.fo.map fun o => (o.1, o.2.1)).toArray[·]?) = fun k : Nat => i.fo[k]?.map fun fo => (fo.1, fo.2.1) := by
    funext k
    simp
  rw [hfn]
  exact h3

/-- A new object, whatever it is. -/
theorem SR.newObj (hr : SR C s S σ a w) {ob : AObj} {w' : World} (hv : Value) (hsz : w.heap.size < w'.heap.size) (hold : ∀ b, b < w.heap.size → w'.heap[b]? = w.heap[b]?) (hos : w'.os = w.os) (htp : w'.tape = w.tape) (hout : w'.output = w.output)
    (hb : ∀ b, blk hv = some b → w.heap.size ≤ b ∧ b < w'.heap.size) (ho : ∀ σ' : Nat → Value, σ' s.nx = hv → (∀ i, i < s.nx → σ' i = σ i) → ObjR w' S σ' (s.nx + 1) s.nx ob) :
    ∃ σ', SR C (s.new ob) S σ' a w' ∧ σ' s.nx = hv ∧ ∀ i, i < s.nx → σ' i = σ i := by
  let σ' : Nat → Value := fun i => if i = s.nx then hv else σ i
  have hσ : ∀ i, i < s.nx → σ' i = σ i := fun i hi => if_neg (by omega)
  have hσn : σ' s.nx = hv := if_pos rfl
  have hk : ∀ b, S b → w'.heap[b]? = w.heap[b]? := fun b hb => hold b (hr.lt b hb)
  have get : ∀ id q, (s.new ob).hp id = some q → (id = s.nx ∧ q = ob) ∨ (id < s.nx ∧ s.hp id = some q) := by
    intro id q hq
    simp only [AS.new] at hq
    by_cases e : id = s.nx
    · subst e
      rw [Nat.beq_refl] at hq
      simp only [cond_true, Option.some.injEq] at hq
      exact .inl ⟨rfl, hq.symm⟩
    · rw [beq_ne e] at hq
      exact .inr ⟨hr.hp.lt id q hq, hq⟩
  refine ⟨σ', ⟨hr.size, hr.defers, fun i => (hr.fr i).mono hk (fun _ h => h) hσ (Nat.le_succ _), ⟨?_, ?_, ?_, ?_, ?_⟩, fun b hb => Nat.lt_trans (hr.lt b hb) hsz, hr.le, ?_, Nat.le_succ_of_le hr.nx, ?_, hr.up⟩, hσn, hσ⟩
  · intro id q hq
    rcases get id q hq with ⟨rfl, _⟩ | ⟨h, _⟩
    · exact Nat.lt_succ_self _
    · exact Nat.lt_succ_of_lt h
  · intro id q hq
    rcases get id q hq with ⟨rfl, rfl⟩ | ⟨h, h1⟩
    · exact ho σ' hσn hσ
    · exact (hr.hp.obj id q h1).mono hk (fun _ h => h) hσ (Nat.le_succ _) h (fun b hb => hold b (blk_lt (hr.hp.obj id q h1) hb))
  · intro id q b hq hbk
    rcases get id q hq with ⟨rfl, rfl⟩ | ⟨h, h1⟩
    · rw [hσn] at hbk
      exact fun hS => by have := hr.lt b hS; have := (hb b hbk).1; omega
    · rw [hσ id h] at hbk
      exact hr.hp.notS id q b h1 hbk
  · intro id q b hq hbk
    rcases get id q hq with ⟨rfl, rfl⟩ | ⟨h, h1⟩
    · rw [hσn] at hbk
      exact .inr (Nat.le_trans hr.keep.size (hb b hbk).1)
    · rw [hσ id h] at hbk
      exact hr.hp.own id q b h1 hbk
  · intro id id' q q' b hq hq' hbk hbk'
    rcases get id q hq with ⟨rfl, rfl⟩ | ⟨h, h1⟩
    · rcases get id' q' hq' with ⟨rfl, rfl⟩ | ⟨h', h1'⟩
      · rfl
      · rw [hσn] at hbk
        rw [hσ id' h'] at hbk'
        have := (hb b hbk).1
        have := blk_lt (hr.hp.obj id' q' h1') hbk'
        omega
    · rw [hσ id h] at hbk
      rcases get id' q' hq' with ⟨rfl, rfl⟩ | ⟨h', h1'⟩
      · rw [hσn] at hbk'
        have := (hb b hbk').1
        have := blk_lt (hr.hp.obj id q h1) hbk
        omega
      · rw [hσ id' h'] at hbk'
        exact hr.hp.inj id id' q q' b h1 h1' hbk hbk'
  · exact ⟨hos.trans hr.keep.os, htp.trans hr.keep.tape, hout.trans hr.keep.output, Nat.le_trans hr.keep.size (Nat.le_of_lt hsz), fun k hlt hB => (hold k (Nat.lt_of_lt_of_le hlt hr.keep.size)).trans (hr.keep.block k hlt hB)⟩
  · intro id hid hc
    rw [hσ id (Nat.lt_of_lt_of_le hid hr.nx)]
    exact hr.hs id hid hc

theorem rep_get (l : List PV) (hl : 0 < l.length) : ∀ (n k : Nat), k < n * l.length → (rep l n)[k]? = l[k % l.length]?
  | 0, k, h => by simp at h
  | n + 1, k, h => by
    simp only [rep]
    by_cases hk : k < l.length
    · rw [List.getElem?_append_left hk, Nat.mod_eq_of_lt hk]
    · have hk' : l.length ≤ k := by omega
      rw [List.getElem?_append_right hk', rep_get l hl n (k - l.length) (by rw [Nat.add_mul, Nat.one_mul] at h; omega)]
      congr 1
      rw [Nat.mod_eq_sub_mod hk']
theorem rep_len (l : List PV) : ∀ n, (rep l n).length = n * l.length
  | 0 => by simp [rep]
  | n + 1 => by simp only [rep, List.length_append, rep_len l n, Nat.add_mul, Nat.one_mul]; omega
theorem chunk_spec (sz : Nat) : ∀ (n : Nat) (l : List PV), l.length = n * sz → (chunk sz n l).length = n ∧ (∀ r ∈ chunk sz n l, r.length = sz) ∧ ∀ (i j : Nat) r p, (chunk sz n l)[i]? = some r → r[j]? = some p → l[i * sz + j]? = some p
  | 0, l, h => ⟨rfl, fun r hr => by simp [chunk] at hr, fun i j r p hr => by simp [chunk] at hr⟩
  | n + 1, l, h => by
    rw [Nat.add_mul, Nat.one_mul] at h
    obtain ⟨h1, h2, h3⟩ := chunk_spec sz n (l.drop sz) (by simp; omega)
    refine ⟨by simp [chunk, h1], fun r hr => ?_, fun i j r p hr hj => ?_⟩
    · simp only [chunk, List.mem_cons] at hr
      rcases hr with rfl | hr
      · simp; omega
      · exact h2 r hr
    · match i with
      | 0 =>
        simp only [chunk, List.getElem?_cons_zero, Option.some.injEq] at hr
        subst hr
        rw [Nat.zero_mul, Nat.zero_add]
        rw [List.getElem?_take] at hj
        split at hj
        · exact hj
        · cases hj
      | i + 1 =>
        simp only [chunk, List.getElem?_cons_succ] at hr
        have := h3 i j r p hr hj
        rw [List.getElem?_drop] at this
        rw [Nat.add_mul, Nat.one_mul, ← this]
        congr 1
        omega

theorem run_buildSlice_of {t len : Nat} {parts : Array (Nat × Operand)} (ho : o.op = .buildSlice t len parts) (hs : SR C s S σ a w) {e : Nat} {i ie : TI} {j d z j' d' z'} (ht : TypeOk P t i j d z) (hel : i.el = some e) (hte : TypeOk P e ie j' d' z')
    (hsz : len * ie.size ≤ 16777216) {ps : List PV}
    (hf : fillA (fun k => some (k * ie.size, ie.size)) (pvs (rep ie.zero len)) (parts.toList.map fun p => (p.1, s.ev p.2)) = some (pvs ps)) :
    ∃ arr, (execOp a.eval o).run P w = .ok (.value (.slice (some ⟨w.heap.size, 0, none⟩) len len)) (w.alloc (.cells arr e)) ∧ ∀ (σ' : Nat → Value) (id n' : Nat), σ' id = .slice (some ⟨w.heap.size, 0, none⟩) len len →
      ObjR (w.alloc (.cells arr e)) S σ' n' id (.row e ie.size (chunk ie.size len ps)) := by
  obtain ⟨h1, h2⟩ := parts_rel hs parts
  have hd := ht.el e hel
  subst hd
  have hzl : ie.zero.length = ie.size := by rw [← (pvs_spec ie.zero).1, ← (hte.zls w S σ s.nx).1, hte.zsize]
  have hpos := hte.pos
  -- the zero cells
  have hz0 : LsR w S σ s.nx (pvs (rep ie.zero len)) ((Array.range (len * ie.size)).map (z'.cells[· % z'.cells.size]!)) := by
    refine ⟨by rw [(pvs_spec _).1, rep_len, hzl]; simp, fun k x hx => ?_⟩
    obtain ⟨p, hp, rfl⟩ := (pvs_spec _).2.1 k x hx
    have hk : k < len * ie.size := by have := (List.getElem?_eq_some_iff.1 hp).1; rwa [rep_len, hzl] at this
    rw [rep_get _ (by omega) len k (by rw [hzl]; exact hk), hzl] at hp
    obtain ⟨v, hv, hr⟩ := (hte.zls w S σ s.nx).2 (k % ie.size) _ ((pvs_spec _).2.2 _ p hp)
    refine ⟨v, ?_, hr⟩
    rw [Array.getElem?_map, Array.getElem?_range, if_pos hk]
    simp only [Option.map_some, hte.zsize, Option.some.injEq]
    rw [getElem!_def, hv]
  obtain ⟨arr, h3, h4⟩ := fill_sound _ _ _ _ _ _ hz0 h1 h2 hf
  have hpl : ps.length = len * ie.size := by
    have h5 := h4.1
    rw [(pvs_spec ps).1] at h5
    have : ∀ (pl : Nat → Option (Nat × Nat)) (pr : List (Nat × Value)) (c c' : Array Value), Instr.fill pl c pr = some c' → c'.size = c.size := by
      intro pl pr
      induction pr with
      | nil => intro c c' hh; simp only [Instr.fill, Option.some.injEq] at hh; rw [hh]
      | cons q pr ih =>
        intro c c' hh
        simp only [Instr.fill] at hh
        split at hh
        · cases hh
        · split at hh
          · cases hh
          · rename_i off size _ hno
            rw [ih _ _ hh]
            have hf2 : ∀ (l : List (Value × Nat)) (c : Array Value), (l.foldl (fun cs p => cs.setIfInBounds (off + p.2) p.1) c).size = c.size := by
              intro l
              induction l with
              | nil => intro c; rfl
              | cons q l ih => intro c; rw [List.foldl_cons, ih]; simp
            rw [← Array.foldl_toList]
            exact hf2 _ _
    have h6 := this _ _ _ _ h3
    simp at h6
    omega
  obtain ⟨hc1, hc2, hc3⟩ := chunk_spec ie.size len ps hpl
  refine ⟨arr, ?_, fun σ' id n' hσ' => ?_⟩
  · simp only [execOp, ho]
    refine run_v ?_
    have hno : ¬ len * ie.size > 2 ^ 24 := by omega
    have h3' : Instr.fill (fun i => some (i * ie.size, ie.size)) ((Array.range (len * ie.size)).map (z'.cells[· % z'.cells.size]!)) (parts.toList.map fun x => (x.fst, a.eval x.snd)) = some arr := by rw [← h3, Array.toList_map]
    by_cases h0 : len * ie.size = 0
    · have hl0 : len = 0 := by rcases Nat.mul_eq_zero.1 h0 with h | h <;> omega
      subst hl0
      have hr0 : Array.range 0 = #[] := by simp [Array.range]
      rw [Nat.zero_mul, hr0, Array.map_empty] at h3'
      have h3'' : Instr.fill (fun i => some (i * ie.size, ie.size)) #[] (parts.toList.map fun x => (x.fst, a.eval x.snd)) = some arr := h3'
      simp [Instr.buildSlice, ht.run_und, hte.run_size, hr0, h3'', newRow]
    · simp [Instr.buildSlice, ht.run_und, hte.run_size, hno, h0, hte.run_zero, h3', newRow]
  · refine ⟨hc2, arr.toList, ?_, h4.ones, fun i j r p hi hj => ?_⟩
    · rw [hσ', hc1]
      refine ⟨by rw [Array.length_toList, h4.1, (pvs_spec ps).1, hpl], .inr ⟨w.heap.size, len, arr, rfl, Nat.zero_le _, heap_alloc_new w _, Nat.le_refl _, ?_, by rw [h4.1, (pvs_spec ps).1, hpl], ?_⟩⟩
      · have : len ≤ len * ie.size := Nat.le_mul_of_pos_right _ hpos
        unfold maxLen
        omega
      · rw [← hpl, ← (pvs_spec ps).1, ← h4.1, ← Array.length_toList, List.take_length]
    · obtain ⟨v, hv, hr⟩ := h4.2 _ _ ((pvs_spec ps).2.2 _ p (hc3 i j r p hi hj))
      refine ⟨v, by simpa using hv, ?_⟩
      cases hr with | pv hr => exact hr.mono (fun b hb => heap_alloc_old w _ b (hs.lt b hb)) (fun _ h => h)

theorem SR.grow {C : Ctx} {s : AS} {S σ a w w'} (hr : SR C s S σ a w) (hb : Below w.heap.size w w') : SR C s (fun b => S b ∨ (w.heap.size ≤ b ∧ b < w'.heap.size)) σ a w' := by
  have hk : ∀ b, S b → w'.heap[b]? = w.heap[b]? := fun b h => hb.block b (hr.lt b h)
  refine ⟨hr.size, hr.defers, fun i => (hr.fr i).mono hk (fun _ h => .inl h) (fun _ _ => rfl) (Nat.le_refl _), ⟨hr.hp.lt, fun id o ho => ?_, fun id o b ho hbk => ?_, hr.hp.own, hr.hp.inj⟩, fun b h => ?_, fun b h => .inl (hr.le b h), ?_, hr.nx, hr.hs, fun b h => ?_⟩
  · exact (hr.hp.obj id o ho).mono hk (fun _ h => .inl h) (fun _ _ => rfl) (Nat.le_refl _) (hr.hp.lt id o ho) (fun b hbk => hb.block b (blk_lt (hr.hp.obj id o ho) hbk))
  · rintro (h | h)
    · exact hr.hp.notS id o b ho hbk h
    · have := blk_lt (hr.hp.obj id o ho) hbk; omega
  · rcases h with h | h
    · exact Nat.lt_of_lt_of_le (hr.lt b h) hb.size
    · exact h.2
  · exact ⟨hb.os.trans hr.keep.os, hb.tape.trans hr.keep.tape, hb.output.trans hr.keep.output, Nat.le_trans hr.keep.size hb.size, fun k hk' hB => (hb.block k (Nat.lt_of_lt_of_le hk' hr.keep.size)).trans (hr.keep.block k hk' hB)⟩
  · rcases h with h | h
    · exact hr.up b h
    · exact .inr (.inl (Nat.le_trans hr.keep.size h.1))

/-- A row that is handed out to be read. -/
theorem objR_pv {w : World} {S S' : Nat → Prop} {σ : Nat → Value} {n id t sz : Nat} {rows : List (List PV)} (h : ObjR w S σ n id (.row t sz rows)) (hle : ∀ b, S b → S' b) (hb : ∀ b, blk (σ id) = some b → S' b) : PVR w S' (.vs sz rows) (σ id) := by
  obtain ⟨hl, xs, how, h1, hx⟩ := h
  rcases how.2 with ⟨h4, h5⟩ | ⟨g, cap, cur, h4, _, hh, hle', hm, _, htake⟩
  · have hr : rows = [] := List.eq_nil_of_length_eq_zero h5
    subst hr
    rw [h4]
    exact .vs sz [] none 0 (fun _ _ => undef) (Nat.le_refl _) (by omega) (fun _ => rfl) (by simp) (fun h => absurd rfl h) (by simp) (by simp)
  · have hown := hb g (by rw [h4]; rfl)
    rw [h4]
    refine .vs sz rows (some ⟨g, 0, none⟩) cap (fun i j => (xs[i * sz + j]?).getD undef) hle' (by unfold maxLen at hm; exact hm) (fun h => by cases h) hl (fun _ => ⟨g, 0, rfl, hown, fun i j hi hj => ?_⟩) (fun i j hi hj => ?_) (fun i j r p hi hj => ?_)
    · have hlt : i * sz + j < xs.length := by rw [how.1]; exact flat_lt hi hj
      have hget : xs[i * sz + j]? = some xs[i * sz + j] := List.getElem?_eq_getElem hlt
      simp only [hget, Option.getD_some]
      have := how.cells (g := g) (by rw [h4]; rfl) _ _ hget
      simpa [add_lit] using this
    · have hlt : i * sz + j < xs.length := by rw [how.1]; exact flat_lt hi hj
      rw [List.getElem?_eq_getElem hlt]
      exact h1 _ (List.getElem_mem hlt)
    · obtain ⟨v, h2, h3⟩ := hx i j r p hi hj
      rw [h2]
      exact h3.mono (fun _ _ => rfl) hle

theorem fine_buildPure {t len : Nat} {parts : Array (Nat × Operand)} (ho : o.op = .buildSlice t len parts) (hs : SR C s S σ a w) {e : Nat} {i ie : TI} {j d z j' d' z'} (ht : TypeOk P t i j d z) (hel : i.el = some e) (hte : TypeOk P e ie j' d' z')
    (hsz : len * ie.size ≤ 16777216) {ps : List PV}
    (hf : fillA (fun k => some (k * ie.size, ie.size)) (pvs (rep ie.zero len)) (parts.toList.map fun p => (p.1, s.ev p.2)) = some (pvs ps)) (h : s.put o.dst (.pv (.vs ie.size (chunk ie.size len ps))) K) : Fine P C o a w K := by
  obtain ⟨arr, hr, hob⟩ := run_buildSlice_of ho hs ht hel hte hsz hf
  have hbel : Below w.heap.size w (w.alloc (.cells arr e)) := (Below.refl _ w).alloc (Nat.le_refl _) _
  have hv := objR_pv (S' := fun b => S b ∨ (w.heap.size ≤ b ∧ b < (w.alloc (.cells arr e)).heap.size)) (hob (fun _ => .slice (some ⟨w.heap.size, 0, none⟩) len len) 0 1 rfl) (fun _ h => .inl h) (fun b hb => by
    simp only [blk, Option.some.injEq] at hb
    subst hb
    exact .inr ⟨Nat.le_refl _, by show w.heap.size < (w.heap.push _).size; simp⟩)
  exact fine_of hr (hs.grow hbel) (.one (.lf (.pv hv))) h

theorem fine_buildSlice {t len : Nat} {parts : Array (Nat × Operand)} (ho : o.op = .buildSlice t len parts) (hs : SR C s S σ a w) {e : Nat} {i ie : TI} {j d z j' d' z'} (ht : TypeOk P t i j d z) (hel : i.el = some e) (hte : TypeOk P e ie j' d' z')
    (hsz : len * ie.size ≤ 16777216) {ps : List PV}
    (hf : fillA (fun k => some (k * ie.size, ie.size)) (pvs (rep ie.zero len)) (parts.toList.map fun p => (p.1, s.ev p.2)) = some (pvs ps)) (h : (s.new (.row e ie.size (chunk ie.size len ps))).put o.dst (.lv (.sl s.nx)) K) : Fine P C o a w K := by
  obtain ⟨arr, hr, hob⟩ := run_buildSlice_of ho hs ht hel hte hsz hf
  obtain ⟨σ', hs', hσ, _⟩ := hs.newObj (ob := .row e ie.size (chunk ie.size len ps)) (w' := w.alloc (.cells arr e)) (.slice (some ⟨w.heap.size, 0, none⟩) len len) (by simp) (fun b hb => heap_alloc_old w _ b hb) rfl rfl rfl
    (fun b hb => by simp only [blk, Option.some.injEq] at hb; subst hb; simp) (fun σ' hσ' _ => hob σ' s.nx (s.nx + 1) hσ')
  refine fine_of (cv := σ' s.nx) ?_ hs' (.one (.lf (.sl (Nat.lt_succ_self _) (by rw [hσ]; rfl)))) h
  rw [hσ]
  exact hr

theorem fine_make {t : Nat} {l c : Operand} (ho : o.op = .makeSlice t l c) (hs : SR C s S σ a w) {e : Nat} {i ie : TI} {j d z j' d' z'} (ht : TypeOk P t i j d z) (hel : i.el = some e) (hte : TypeOk P e ie j' d' z')
    {kl kc : IntKind} {b : Int} (hl : a.eval l = .int kl 0) (hc : a.eval c = .int kc b) (h0 : 0 ≤ b) (hby : ie.bytes * b.toNat ≤ 281474976710656) (h63 : b.toNat ≤ 9223372036854775807)
    (h : (s.new (.row e ie.size [])).put o.dst (.lv (.sl s.nx)) K) : Fine P C o a w K := by
  have hd := ht.el e hel
  subst hd
  obtain ⟨n, rfl⟩ : ∃ n : Nat, b = n := ⟨b.toNat, by omega⟩
  have hr := run_make (P := P) w t e j' z' ht.und hte.info hte.zero kl kc 0 (n : Int) (Int.le_refl _) (by omega) (by
    rw [hte.bytes]
    have h2 : ((ie.bytes * n : Nat) : Int) ≤ 281474976710656 := by simp only [Int.toNat_natCast] at hby; omega
    rwa [Int.natCast_mul] at h2) (by simp only [Int.toNat_natCast] at h63; omega)
  simp only [Int.toNat_zero, Int.toNat_natCast] at hr
  generalize hm : madeCells z'.cells (n * j'.size) = arr at hr
  have hsz : arr.size = n * j'.size := by rw [← hm]; exact size_madeCells _ _
  obtain ⟨σ', hs', hσ, _⟩ := hs.newObj (ob := .row e ie.size []) (w' := w.alloc (.cells arr e)) (.slice (some ⟨w.heap.size, 0, none⟩) 0 n) (by simp) (fun b hb => heap_alloc_old w _ b hb) rfl rfl rfl
    (fun b hb => by simp only [blk, Option.some.injEq] at hb; subst hb; simp) (fun σ' hσ' _ => by
      refine ⟨by simp, [], ?_, by simp, by simp⟩
      rw [hσ']
      have := World.ownsRow_made (e := e) (size := ie.size) w arr n (Nat.zero_le w.heap.size) (by unfold maxLen; simpa using h63) (by rw [hsz, hte.size])
      exact this)
  refine fine_of (cv := σ' s.nx) ?_ hs' (.one (.lf (.sl (Nat.lt_succ_self _) (by rw [hσ]; rfl)))) h
  rw [hσ]
  simp only [execOp, ho, hl, hc]
  exact run_v hr

end
end Go.Proofs.YtijjagkeaehhbaaGreat.Eng
