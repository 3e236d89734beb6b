/- The engine's operations are sound: one lemma an operation. -/
import Derived.Test.YtijjagkeaehhbaaEngE
set_option linter.unusedSimpArgs false
set_option linter.unusedVariables false
namespace Go.Proofs.Ytijjagkeaehhbaa.Eng
open Go.RowKit (Below)

/-- What every operation's lemma says. -/
def Fine (P : Program) (C : Ctx) (o : Oper) (a : Act) (w : World) (K : AS → Prop) : Prop :=
  ∀ Q : Exit → Act → World → Prop, o.wp P a w (fun a' w' => ∃ s', K s' ∧ St C s' a' w') Q

section
variable {P : Program} {T : Tab} {C : Ctx} {o : Oper} {s : AS} {K : AS → Prop} {S : Nat → Prop} {σ : Nat → Value} {a : Act} {w : World}

theorem fine_of {cv : Value} {w' : World} {s' : AS} {S' : Nat → Prop} {σ' : Nat → Value} {v : AV} (hr : (execOp a.eval o).run P w = .ok (.value cv) w') (hs : SR C s' S' σ' a w') (hv : AVR w' S' σ' s'.nx v cv)
    (h : s'.put o.dst v K) : Fine P C o a w K := fun _ => wp_value hr (by obtain ⟨s'', hk, hs'⟩ := hs.put hv h; exact ⟨s'', hk, S', σ', hs'⟩)
theorem fine_skip {w' : World} {s' : AS} {S' : Nat → Prop} {σ' : Nat → Value} (hr : (execOp a.eval o).run P w = .ok .skip w') (hs : SR C s' S' σ' a w')
    (h : s'.put o.dst .any K) : Fine P C o a w K := fun _ => wp_skip' hr (by obtain ⟨s'', hk, hs'⟩ := hs.put (.one (.any undef)) h; exact ⟨s'', hk, S', σ', hs'⟩)
theorem run_v {m : Sem Value} {cv : Value} {w' : World} (h : m.run P w = .ok cv w') : (do pure (Next.value (← m)) : Sem Next).run P w = .ok (.value cv) w' := by simp [h]
theorem run_u {m : Sem Unit} {w' : World} (h : m.run P w = .ok () w') : (do m; pure Next.skip : Sem Next).run P w = .ok .skip w' := by simp [h]

theorem fine_pure (hs : SR C s S σ a w) (h : ∃ r, PureOp P o s.ev r ∧ s.put o.dst r K) : Fine P C o a w K := by
  obtain ⟨r, h1, h2⟩ := h
  obtain ⟨v, h3, h4⟩ := h1.run w S σ s.nx a.eval fun x _ => hs.ev x
  exact fine_of h3 hs h4 h2
theorem fine_move {x : Operand} (ho : o.op = .move x ∨ o.op = .assign x) (hs : SR C s S σ a w) (h : s.put o.dst (s.ev x) K) : Fine P C o a w K :=
  fine_of (by rcases ho with ho | ho <;> simp [execOp, ho]) hs (hs.ev x) h

theorem AVR.pv_inv {w S σ n p v} (h : AVR w S σ n (.one (.lf (.pv p))) v) : PVR w S p v := by
  cases h with | one h => cases h with | lf h => cases h with | pv h => exact h
theorem AVR.bool_inv {w S σ n b v} (h : AVR w S σ n (.one (.lf (.pv (.bool b)))) v) : v = .bool b := by cases h.pv_inv; rfl
theorem AVR.int_inv {w S σ n k x v} (h : AVR w S σ n (.one (.lf (.pv (.int k x)))) v) : v = .int k x := by cases h.pv_inv; rfl
theorem AVR.str_inv {w S σ n x v} (h : AVR w S σ n (.one (.lf (.pv (.str x)))) v) : v = .string x := by cases h.pv_inv; rfl
theorem AVR.int {w S σ n} (k x) : AVR w S σ n (.one (.lf (.pv (.int k x)))) (.int k x) := .one (.lf (.pv (.int k x)))
theorem AVR.bool {w S σ n} (x) : AVR w S σ n (.one (.lf (.pv (.bool x)))) (.bool x) := .one (.lf (.pv (.bool x)))
theorem AVR.str {w S σ n} (x) : AVR w S σ n (.one (.lf (.pv (.str x)))) (.string x) := .one (.lf (.pv (.str x)))
theorem AVR.ptr_inv {w S σ n id off v} (h : AVR w S σ n (.one (.lf (.ptr id off))) v) : id < n ∧ ∃ b, σ id = .pointer (some ⟨b, 0, none⟩) ∧ v = .pointer (some ⟨b, off, none⟩) := by
  cases h with | one h => cases h with | lf h => cases h with | ptr hn h => exact ⟨hn, _, h, rfl⟩
theorem AVR.rp_inv {w S σ n id sz idx off v} (h : AVR w S σ n (.one (.lf (.rp id sz idx off))) v) : id < n ∧ ∃ b m c, σ id = .slice (some ⟨b, 0, none⟩) m c ∧ v = .pointer (some ⟨b, idx * sz + off, none⟩) := by
  cases h with | one h => cases h with | lf h => cases h with | rp hn h => exact ⟨hn, _, _, _, h, rfl⟩
theorem AVR.sl_inv {w S σ n id v} (h : AVR w S σ n (.one (.lf (.sl id))) v) : id < n ∧ v = σ id := by
  cases h with | one h => cases h with | lf h => cases h with | sl hn _ => exact ⟨hn, rfl⟩
theorem AVR.cp_inv {w S σ n r off v} (h : AVR w S σ n (.one (.lf (.pv (.cp r off)))) v) :
    ∃ b o, ∃ f : Nat → Value, v = .pointer (some ⟨b, o + off, none⟩) ∧ S b ∧ (∀ j, j < r.length → w.cell? ⟨b, o + j, none⟩ = some (f j)) ∧ (∀ j, j < r.length → (f j).oneCell' = true) ∧ ∀ (j : Nat) p, r[j]? = some p → PVR w S p (f j) := by
  have h := h.pv_inv
  cases h with | cp _ _ b o f hS hc h1 hp => exact ⟨b, o, f, rfl, hS, hc, h1, hp⟩

theorem fine_pick {c x y : Operand} (ho : o.op = .pick c x y) (hs : SR C s S σ a w) {t : Bool} (hc : s.ev c = .one (.lf (.pv (.bool t))))
    (h1 : t = true → s.put o.dst (s.ev x) K) (h2 : t = false → s.put o.dst (s.ev y) K) : Fine P C o a w K := by
  have e : a.eval c = .bool t := (hc ▸ hs.ev c).bool_inv
  cases t with
  | true => exact fine_of (by simp [execOp, ho, e, asBool]) hs (hs.ev x) (h1 rfl)
  | false => exact fine_of (by simp [execOp, ho, e, asBool]) hs (hs.ev y) (h2 rfl)

theorem eqGuard_int (op : BinOp) (t : Nat) (x y : Operand) (k k' : IntKind) (u v : Int) : (eqGuard op t x y (.int k u) (.int k' v)).run P w = .ok () w := by cases op <;> rfl
theorem eqGuard_str (op : BinOp) (t : Nat) (x y : Operand) (u v : ByteArray) : (eqGuard op t x y (.string u) (.string v)).run P w = .ok () w := by cases op <;> rfl

theorem run_binOp_of {op : BinOp} {t : Nat} {x y : Operand} {u v : Value} {yt : Nat} (ho : o.op = .binOp op t x y yt) (hu : a.eval x = u) (hv : a.eval y = v) (h : (eqGuard op t x y u v).run P w = .ok () w) {cv : Value}
    (hr : (binOp op t u v).run P w = .ok cv w) : (execOp a.eval o).run P w = .ok (.value cv) w := by
  simp only [execOp, ho, hu, hv]
  exact run_v (by rw [Sem.run_bind, h]; exact hr)

theorem cmp_run (op : BinOp) (x y : Int) {r : Bool} (h : cmpA op x y = some r) : (Op.intCmp op x y).run P w = .ok (.bool r) w := by
  unfold cmpA at h
  cases op <;> first | (cases h; rfl) | cases h
theorem arith_run (op : BinOp) (k : IntKind) (x y : Int) {r : Int} (h : arithA op k x y = some r) : (Op.intArith op k x y).run P w = .ok (.int k r) w := by
  unfold arithA at h
  cases op <;> first | (cases h; rfl) | cases h
theorem str_run (op : BinOp) (x y : ByteArray) {r : Bool} (h : strA op x y = some r) : (Op.stringOp op x y).run P w = .ok (.bool r) w := by
  unfold strA at h
  cases op <;> first | (cases h; rfl) | cases h

theorem int_run (op : BinOp) (t : Nat) (k : IntKind) (x y : Int) {cv : Value}
    (h : match op with
      | .quo => y ≠ 0 ∧ cv = .int k (k.wrap (x.tdiv y))
      | .rem => y ≠ 0 ∧ cv = .int k (x.tmod y)
      | op => match cmpA op x y with | some r => cv = .bool r | none => match arithA op k x y with | some r => cv = .int k r | none => False) :
    (binOp op t (.int k x) (.int k y)).run P w = .ok cv w := by
  unfold binOp
  cases op <;> simp [cmpA, arithA] at h <;> (try (subst h; first | rfl | simp [Op.intCmp, Op.intArith])) <;> (obtain ⟨h1, rfl⟩ := h; simp [Op.intDiv, h1])

theorem fine_bin {op : BinOp} {t yt : Nat} {x y : Operand} (ho : o.op = .binOp op t x y yt) (hs : SR C s S σ a w) (h : binA P op t x y (s.ev x) (s.ev y) fun v => s.put o.dst v K) : Fine P C o a w K := by
  unfold binA at h
  split at h
  · rename_i k u k' v hx hy
    split at h
    · rename_i hk
      have hk := of_decide_eq_true hk
      subst hk
      have ex : a.eval x = .int k u := (hx ▸ hs.ev x).int_inv
      have ey : a.eval y = .int k v := (hy ▸ hs.ev y).int_inv
      split at h
      · exact fine_of (run_binOp_of ho ex ey (eqGuard_int ..) (int_run .quo t k u v ⟨h.1, rfl⟩)) hs (.int _ _) h.2
      · exact fine_of (run_binOp_of ho ex ey (eqGuard_int ..) (int_run .rem t k u v ⟨h.1, rfl⟩)) hs (.int _ _) h.2
      · rename_i hq hm
        split at h
        · rename_i r hr
          refine fine_of (run_binOp_of ho ex ey (eqGuard_int ..) (int_run op t k u v (cv := .bool r) ?_)) hs (.bool _) h
          cases op <;> simp_all [cmpA]
        · rename_i hr
          split at h
          · rename_i r hr'
            refine fine_of (run_binOp_of ho ex ey (eqGuard_int ..) (int_run op t k u v (cv := .int k r) ?_)) hs (.int _ _) h
            cases op <;> simp_all [cmpA]
          · exact h.elim
    · exact h.elim
  · rename_i u v hx hy
    have ex : a.eval x = .string u := (hx ▸ hs.ev x).str_inv
    have ey : a.eval y = .string v := (hy ▸ hs.ev y).str_inv
    split at h
    · refine fine_of (run_binOp_of ho ex ey (eqGuard_str ..) (cv := .string (u ++ v)) ?_) hs (.str _) h.2
      have h1 := h.1
      have : ¬ IntKind.i64.max < ((u.size + v.size : Nat) : Int) := by
        have : IntKind.i64.max = 9223372036854775807 := rfl
        omega
      simp only [binOp, Op.stringOp]
      rw [if_neg (by simpa using this)]
      rfl
    · split at h
      · rename_i r hr
        refine fine_of (run_binOp_of ho ex ey (eqGuard_str ..) (cv := .bool r) ?_) hs (.bool _) h
        have : binOp op t (.string u) (.string v) = Op.stringOp op u v := by cases op <;> rfl
        rw [this]
        exact str_run op u v hr
      · exact h.elim
  · obtain ⟨r, h1, h2⟩ := h
    obtain ⟨h3, h4⟩ := h1.run w S σ s.nx _ _ (hs.ev x) (hs.ev y)
    exact fine_of (run_binOp_of ho rfl rfl h3 h4) hs (.bool _) h2

theorem fine_not {t : Nat} {x : Operand} (ho : o.op = .unOp .not t x) (hs : SR C s S σ a w) {b : Bool} (hx : s.ev x = .one (.lf (.pv (.bool b)))) (h : s.put o.dst (.b !b) K) : Fine P C o a w K := by
  have e : a.eval x = .bool b := (hx ▸ hs.ev x).bool_inv
  exact fine_of (by simp [execOp, ho, e, Op.unary]) hs (.bool _) h
theorem fine_neg {t : Nat} {x : Operand} (ho : o.op = .unOp .neg t x) (hs : SR C s S σ a w) {k : IntKind} {n : Int} (hx : s.ev x = .one (.lf (.pv (.int k n)))) (h : s.put o.dst (.pv (.int k (k.wrap (0 - n)))) K) : Fine P C o a w K := by
  have e : a.eval x = .int k n := (hx ▸ hs.ev x).int_inv
  exact fine_of (by simp [execOp, ho, e, Op.unary, Op.intArith]) hs (.int _ _) h

theorem fine_nilCheck {x : Operand} (ho : o.op = .nilCheck x) (hs : SR C s S σ a w) {u : Addr} (hx : a.eval x = .pointer (some u)) (h : s.put o.dst (s.ev x) K) : Fine P C o a w K :=
  fine_of (cv := a.eval x) (by simp [execOp, ho, hx]) hs (hs.ev x) h

theorem fine_extract {x : Operand} {k : Nat} (ho : o.op = .extract x k) (hs : SR C s S σ a w) {rs : List RV} (hx : s.ev x = .tup rs) {r : RV} (hk : rs[k]? = some r) (h : s.put o.dst (.one r) K) : Fine P C o a w K := by
  have hv := hs.ev x
  rw [hx] at hv
  cases he : a.eval x with
  | tuple vs =>
    rw [he] at hv
    cases hv with
    | tup hn hh =>
      obtain ⟨v, hv, hr⟩ := hh k r hk
      exact fine_of (by simp [execOp, ho, he, Instr.extract, hv]) hs (.one hr) h
  | _ => rw [he] at hv; cases hv

theorem fine_box {t : Nat} {x : Operand} (ho : o.op = .box t x) (hs : SR C s S σ a w) {cs : List LV} (hc : (s.ev x).cells = some cs)
    (h : (s.new (.box t cs)).put o.dst (.lv (.ptr s.nx 0)) K) : Fine P C o a w K := by
  have hl := (hs.ev x).cells hc
  obtain ⟨σ', hs', hσ, _⟩ := hs.newBox t hl
  refine fine_of (cv := .pointer (some ⟨w.heap.size, 0, none⟩)) ?_ hs' (.one (.lf (.ptr (Nat.lt_succ_self _) hσ))) h
  simp only [execOp, ho]
  exact run_v (by simp [Instr.box, newVar, newRow])

theorem fine_alloc {t : Nat} (ho : o.op = .alloc t) (hs : SR C s S σ a w) {i : TI} {j d z} (ht : TypeOk P t i j d z)
    (h : (s.new (.box t (pvs i.zero))).put o.dst (.lv (.ptr s.nx 0)) K) : Fine P C o a w K := by
  obtain ⟨σ', hs', hσ, _⟩ := hs.newBox t (ht.zls w S σ s.nx)
  refine fine_of (cv := .pointer (some ⟨w.heap.size, 0, none⟩)) ?_ hs' (.one (.lf (.ptr (Nat.lt_succ_self _) hσ))) h
  simp only [execOp, ho]
  exact run_v (by simp [Instr.alloc, ht.run_zero, newVar, newRow])

end
end Go.Proofs.Ytijjagkeaehhbaa.Eng
