/- The engine's operations are sound: builtins, calls, and all together. -/
import Derived.Test.YtijjagkeaehhbaaEngI
set_option linter.unusedSimpArgs false
set_option linter.unusedVariables false
namespace Go.Proofs.Ytijjagkeaehhbaa.Eng
open Go.RowKit (Below)

section
variable {P : Program} {T : Tab} {C : Ctx} {o : Oper} {s : AS} {K : AS → Prop} {S : Nat → Prop} {σ : Nat → Value} {a : Act} {w : World}

theorem map_one {α β : Type} {f : α → β} {l : List α} {x : β} (h : l.map f = [x]) : ∃ q, l = [q] ∧ f q = x := by
  match l, h with
  | [q], h => exact ⟨q, rfl, by simpa using h⟩
theorem map_two {α β : Type} {f : α → β} {l : List α} {x y : β} (h : l.map f = [x, y]) : ∃ q r, l = [q, r] ∧ f q = x ∧ f r = y := by
  match l, h with
  | [q, r], h => exact ⟨q, r, rfl, by simp at h; exact h.1, by simp at h; exact h.2⟩
theorem arr_of {α : Type} {c : Array α} {l : List α} (h : c.toList = l) : c = l.toArray := by rw [← h]

theorem run_builtin {c : Call} {b : Builtin} (ho : o.op = .call c) (hc : c.callee = .builtin b) {vs : Array Value} (hvs : c.args.map a.eval = vs) {cv : Value} {w' : World}
    (hr : ∀ consts, (builtin b c.argTypes o.type consts vs).run P w = .ok (.value cv) w') : (execOp a.eval o).run P w = .ok (.value cv) w' := by
  simp only [execOp, ho, resolve, hc, hvs, Sem.run_bind, Sem.run_pure, Result.andThen_ok, invoke]
  exact hr _

/-- What an append leaves. -/
theorem fine_append {c : Call} (ho : o.op = .call c) (hc : c.callee = .builtin .append) {t e : Nat} (hty : c.argTypes = #[t, t]) {x y : Operand} (hargs : c.args = #[x, y]) (hs : SR C s S σ a w) {i ie : TI} {j d z j' d' z'}
    (ht : TypeOk P t i j d z) (hel : i.el = some e) (hte : TypeOk P e ie j' d' z') {id : Nat} {rows ys : List (List PV)} (hx : s.ev x = .one (.lf (.sl id))) (hid : s.hp id = some (.row e ie.size rows)) (hown : s.n0 ≤ id ∨ s.c0 id = true)
    {A : Option Addr} {cap : Nat} (hy : a.eval y = .slice A ys.length cap) (hyl : ∀ r ∈ ys, r.length = ie.size) (hN : A = none → ys = [] ∧ cap = 0)
    (hcells : ∀ ad, A = some ad → ∃ f : Nat → Nat → Value, (∀ i j, i < ys.length → j < ie.size → w.cell? (ad.add (i * ie.size + j)) = some (f i j) ∧ (f i j).oneCell' = true) ∧ ∀ (i j : Nat) r p, ys[i]? = some r → r[j]? = some p → PVR w S p (f i j))
    (hlen : A ≠ none → rows.length + ys.length ≤ 9223372036854775807) (hbytes : A ≠ none → (rows.length + ys.length) * ie.bytes ≤ 140737488355328)
    (h : ((s.poison id).setO id (.row e ie.size (rows ++ ys))).put o.dst (.lv (.sl id)) K) : Fine P C o a w K := by
  obtain ⟨hn, hv⟩ := (hx ▸ hs.ev x).sl_inv
  obtain ⟨hrl, xs, how, h1, hxs⟩ := row_open hs hid
  have hd := ht.el e hel
  subst hd
  have hvs : c.args.map a.eval = #[σ id, .slice A ys.length cap] := by rw [hargs]; simp [hv, hy]
  -- the run
  have run : ∃ v' w' news, (Builtin.append_ #[t, t] o.type #[σ id, .slice A ys.length cap]).run P w = .ok v' w' ∧ w'.ownsRow 0 e ie.size v' (rows.length + ys.length) (xs ++ news) ∧ w.grownBy w' (σ id).ownBlock ∧
      (v'.ownBlock = (σ id).ownBlock ∨ v'.ownBlock = some w.heap.size) ∧ (v'.oneCell' = true) ∧ (∀ v ∈ news, v.oneCell' = true) ∧ (∀ (i j : Nat) r p, ys[i]? = some r → r[j]? = some p → ∃ v, news[i * ie.size + j]? = some v ∧ PVR w S p v) := by
    cases A with
    | none =>
      obtain ⟨rfl, rfl⟩ := hN rfl
      have hr := run_append_owned_none (P := P) (w := w) 0 t o.type e j' ie.size ht.und hte.info (σ id) rows.length xs how
      refine ⟨σ id, w, [], hr, by simpa using how, ⟨rfl, rfl, rfl, Nat.le_refl _, fun _ _ _ => rfl⟩, .inl rfl, ?_, by simp, by simp⟩
      rcases how.2 with ⟨h4, _⟩ | ⟨g, cp, cur, h4, _⟩ <;> rw [h4] <;> rfl
    | some ad =>
      obtain ⟨f, hf1, hf2⟩ := hcells ad rfl
      have hpos := hte.pos
      have hnl : ((List.range (ys.length * ie.size)).map fun q => f (q / ie.size) (q % ie.size)).length = ys.length * ie.size := by simp
      have hdm : ∀ q, q < ys.length * ie.size → q / ie.size < ys.length ∧ q % ie.size < ie.size ∧ q / ie.size * ie.size + q % ie.size = q := fun q hq =>
        ⟨(Nat.div_lt_iff_lt_mul hpos).2 hq, Nat.mod_lt _ hpos, by rw [Nat.mul_comm]; exact Nat.div_add_mod q ie.size⟩
      obtain ⟨v', w', hr, how', hg, _, hat⟩ := run_append_own_at (P := P) w 0 t o.type e j' z' ie.size ie.bytes ht.und hte.info hte.zero hte.size hte.bytes hte.zsize hpos (σ id) rows.length xs how ad ys.length cap
        ((List.range (ys.length * ie.size)).map fun q => f (q / ie.size) (q % ie.size)) hnl (fun q u hu => by
          rw [List.getElem?_map] at hu
          cases hq : (List.range (ys.length * ie.size))[q]? with
          | none => simp [hq] at hu
          | some m =>
            obtain ⟨hm, rfl⟩ := List.getElem?_eq_some_iff.1 hq
            simp only [List.length_range] at hm
            simp only [hq, Option.map_some, Option.some.injEq, List.getElem_range] at hu
            subst hu
            obtain ⟨e1, e2, e3⟩ := hdm q hm
            have := (hf1 _ _ e1 e2).1
            rwa [e3] at this) (fun u hu => by
          simp only [List.mem_map, List.mem_range] at hu
          obtain ⟨q, hq, rfl⟩ := hu
          obtain ⟨e1, e2, _⟩ := hdm q hq
          exact (hf1 _ _ e1 e2).2) (by have := hlen (by simp); unfold maxLen; omega) (hbytes (by simp)) (Nat.zero_le _)
      refine ⟨v', w', _, hr, how', hg, hat, ?_, fun u hu => ?_, fun i j r p hi hj => ?_⟩
      · rcases how'.2 with ⟨h4, _⟩ | ⟨g, cp, cur, h4, _⟩ <;> rw [h4] <;> rfl
      · simp only [List.mem_map, List.mem_range] at hu
        obtain ⟨q, hq, rfl⟩ := hu
        obtain ⟨e1, e2, _⟩ := hdm q hq
        exact (hf1 _ _ e1 e2).2
      · have hil : i < ys.length := (List.getElem?_eq_some_iff.1 hi).1
        have hjl : j < ie.size := by have := (List.getElem?_eq_some_iff.1 hj).1; have := hyl r (List.mem_of_getElem? hi); omega
        have hq := flat_lt hil hjl
        refine ⟨f i j, ?_, hf2 i j r p hi hj⟩
        rw [List.getElem?_map, List.getElem?_range hq]
        obtain ⟨e1, e2, e3⟩ := hdm _ hq
        have := flat_ne e2 hjl e3
        simp [this.1, this.2]
  obtain ⟨v', w', news, hr, how', hg, hat, hv1, hn1, hnp⟩ := run
  have hblk : ∀ b, blk v' = some b → blk (σ id) = some b ∨ w.heap.size ≤ b := by
    intro b hb
    have ob : ∀ u : Value, u.ownBlock = some b → ∃ (c : Nat) (l : Option Nat) (n : Nat × Nat), u = .slice (some ⟨b, c, l⟩) n.1 n.2 := fun u hu => by
      cases u <;> simp [Value.ownBlock] at hu
      rename_i A n c
      cases A with
      | none => simp at hu
      | some ad => obtain ⟨b', o', s'⟩ := ad; simp at hu; subst hu; exact ⟨o', s', (n, c), rfl⟩
    have hvo : v'.ownBlock = some b := by
      rcases how'.2 with ⟨h4, _⟩ | ⟨g, cp, cur, h4, _⟩
      · rw [h4] at hb; simp [blk] at hb
      · rw [h4] at hb ⊢; simpa [blk, Value.ownBlock] using hb
    rcases hat with h5 | h5
    · rw [h5] at hvo
      obtain ⟨c, l, n, h6⟩ := ob _ hvo
      left; rw [h6]; rfl
    · rw [hvo] at h5
      right; simp at h5; omega
  obtain ⟨σ', hσ', hs'⟩ := hs.move (o' := .row e ie.size (rows ++ ys)) hid hown (v' := v') (w' := w') (fun k hk hne => hg.block k hk (fun e => hne (by
      rw [e]
      rcases how.2 with ⟨h4, _⟩ | ⟨g, cp, cur, h4, _⟩ <;> rw [h4] <;> rfl))) hg.size hg.os hg.tape hg.output hblk (fun σ' hσ' => by
    refine ⟨fun r hr => ?_, xs ++ news, by rw [hσ', List.length_append]; exact how', fun v hv => ?_, fun i j r p hi hj => ?_⟩
    · rcases List.mem_append.1 hr with h | h
      · exact hrl r h
      · exact hyl r h
    · rcases List.mem_append.1 hv with h | h
      · exact h1 v h
      · exact hn1 v h
    · have hS : ∀ b, S b → w'.heap[b]? = w.heap[b]? := fun b hb => hg.block b (hs.lt b hb) (fun e => by
        refine hs.hp.notS id _ b hid ?_ hb
        rcases how.2 with ⟨h4, _⟩ | ⟨g, cp, cur, h4, _⟩
        · rw [h4] at e; simp [Value.ownBlock] at e
        · rw [h4] at e ⊢; simp [Value.ownBlock] at e; simp [blk, e])
      by_cases hil : i < rows.length
      · rw [List.getElem?_append_left hil] at hi
        have hjl : j < ie.size := by have := (List.getElem?_eq_some_iff.1 hj).1; have := hrl r (List.mem_of_getElem? hi); omega
        obtain ⟨v, h2, h3⟩ := hxs i j r p hi hj
        exact ⟨v, by rw [List.getElem?_append_left (by rw [how.1]; exact flat_lt hil hjl)]; exact h2, h3.mono hS (fun _ h => h)⟩
      · rw [List.getElem?_append_right (by omega)] at hi
        obtain ⟨v, h2, h3⟩ := hnp _ j r p hi hj
        refine ⟨v, ?_, h3.mono hS (fun _ h => h)⟩
        have e1 : i * ie.size = rows.length * ie.size + (i - rows.length) * ie.size := by rw [← Nat.add_mul]; congr 1; omega
        rw [List.getElem?_append_right (by rw [how.1, e1]; omega), how.1, e1]
        rw [show rows.length * ie.size + (i - rows.length) * ie.size + j - rows.length * ie.size = (i - rows.length) * ie.size + j from by omega]
        exact h2)
  refine fine_of (cv := v') (run_builtin ho hc hvs (fun consts => ?_)) hs' (.one (.lf (by rw [← hσ']; exact .sl hn (by rw [hσ']; exact hv1)))) h
  rw [hty]
  exact run_v hr

theorem fine_len {c : Call} (ho : o.op = .call c) (hc : c.callee = .builtin .len) {t : Nat} {ts : List Nat} (hty : c.argTypes.toList = t :: ts) {x : Operand} (hargs : c.args.toList = [x]) (hs : SR C s S σ a w) {i : TI} {j d z}
    (ht : TypeOk P t i j d z) {n : Int} (hn : (i.str = true ∧ ∃ b, a.eval x = .string b ∧ n = b.size) ∨ (∃ e, i.el = some e) ∧ ∃ A l c, a.eval x = .slice A l c ∧ n = l) (h : s.put o.dst (.i n) K) : Fine P C o a w K := by
  have hvs : c.args.map a.eval = #[a.eval x] := by rw [arr_of hargs]; simp
  have hty0 : c.argTypes[0]? = some t := by rw [arr_of hty]; simp
  refine fine_of (cv := .int .i64 n) (run_builtin ho hc hvs (fun consts => ?_)) hs (.int _ _) h
  refine run_v ?_
  rcases hn with ⟨h1, b, h2, rfl⟩ | ⟨⟨e, h1⟩, A, l, c', h2, rfl⟩
  · have hd := ht.str h1
    subst hd
    simp [Builtin.len_, hty0, h2, ht.run_und, goInt]
  · have hd := ht.el e h1
    subst hd
    simp [Builtin.len_, hty0, h2, ht.run_und, goInt]

theorem fine_max {c : Call} (ho : o.op = .call c) (hc : c.callee = .builtin .max) {x y : Operand} (hargs : c.args.toList = [x, y]) (hs : SR C s S σ a w) {k : IntKind} {m n : Int}
    (hx : a.eval x = .int k m) (hy : a.eval y = .int k n) (h : s.put o.dst (.pv (.int k (if m < n then n else m))) K) : Fine P C o a w K := by
  have hvs : c.args.map a.eval = #[.int k m, .int k n] := by rw [arr_of hargs]; simp [hx, hy]
  refine fine_of (cv := .int k (if m < n then n else m)) (run_builtin ho hc hvs (fun consts => ?_)) hs (.int _ _) h
  exact run_v (by simp [Builtin.max_, Builtin.max2])
theorem fine_min {c : Call} (ho : o.op = .call c) (hc : c.callee = .builtin .min) {x y : Operand} (hargs : c.args.toList = [x, y]) (hs : SR C s S σ a w) {k : IntKind} {m n : Int}
    (hx : a.eval x = .int k m) (hy : a.eval y = .int k n) (h : s.put o.dst (.pv (.int k (if n < m then n else m))) K) : Fine P C o a w K := by
  have hvs : c.args.map a.eval = #[.int k m, .int k n] := by rw [arr_of hargs]; simp [hx, hy]
  refine fine_of (cv := .int k (if n < m then n else m)) (run_builtin ho hc hvs (fun consts => ?_)) hs (.int _ _) h
  exact run_v (by simp [Builtin.min_, Builtin.min2])

/-- A call of a function with a body. -/
theorem fine_call {c : Call} (ho : o.op = .call c) {f : Operand} (hc : c.callee = .value f) {g : Nat} {caps : List Value} (hf : a.eval f = .func (.func g) #[] caps.toArray) (hs : SR C s S σ a w) {args : List AV}
    (hl : (c.args.toList.map a.eval ++ caps).length = args.length) (hargs : ∀ (i : Nat) x, args[i]? = some x → ∃ v, (c.args.toList.map a.eval ++ caps)[i]? = some v ∧ AVR w S σ s.nx x v)
    (h : CallR P g args s fun v s' => s'.put o.dst v K) : Fine P C o a w K := by
  intro Q
  obtain ⟨he, hcall⟩ := h
  have hrun : (execOp a.eval o).run P w = .ok (.enter g (c.args.map a.eval ++ caps.toArray)) w := by
    simp only [execOp, ho, resolve, hc, hf, Sem.run_bind, Sem.run_pure, Result.andThen_ok, Deferred.ofValue, invoke, Array.empty_append]
    exact he _ _
  unfold Oper.wp
  rw [hrun]
  have harr : (c.args.map a.eval ++ caps.toArray) = (c.args.toList.map a.eval ++ caps).toArray := by
    apply Array.toList_inj.1
    simp
  refine (hcall C S σ a w hs _ (by rw [harr]; simpa using hl) (fun i x hi => ?_)).mono ?_
  · obtain ⟨v, h1, h2⟩ := hargs i x hi
    exact ⟨v, by rw [harr]; simpa using h1, h2⟩
  · rintro e w' ⟨v, r, s', S', σ', hk, rfl, hav, hs'⟩
    obtain ⟨s'', hk', hs''⟩ := hs'.put hav hk
    exact ⟨s'', hk', S', σ', hs''⟩

theorem fine_invoke {c : Call} (ho : o.op = .call c) {r : Operand} {mth : String} (hc : c.callee = .invoke r mth) (hs : SR C s S σ a w) {f : Nat} {y : AV} (hm : MethR P mth (s.ev r) f y) {args : List AV} (hl : c.args.toList.length = args.length)
    (hargs : ∀ (i : Nat) x, args[i]? = some x → ∃ v, (c.args.toList.map a.eval)[i]? = some v ∧ AVR w S σ s.nx x v)
    (h : CallR P f (y :: args) s fun v s' => s'.put o.dst v K) : Fine P C o a w K := by
  intro Q
  obtain ⟨he, hcall⟩ := h
  obtain ⟨u, hu, hrun'⟩ := hm.run w S σ s.nx (a.eval r) (hs.ev r)
  have hrun : (execOp a.eval o).run P w = .ok (.enter f (#[u] ++ c.args.map a.eval)) w := by
    simp only [execOp, ho, resolve, hc, Sem.run_bind, Sem.run_pure, Result.andThen_ok]
    rw [hrun']
    exact he _ _
  unfold Oper.wp
  rw [hrun]
  have hl' : c.args.size = args.length := by simpa using hl
  refine (hcall C S σ a w hs _ (by simp [hl']; omega) (fun i x hi => ?_)).mono ?_
  · match i with
    | 0 =>
      obtain rfl : y = x := Option.some.inj hi
      exact ⟨u, by rw [← Array.getElem?_toList, Array.toList_append]; rfl, hu⟩
    | i + 1 =>
      obtain ⟨v, h1, h2⟩ := hargs i x hi
      refine ⟨v, ?_, h2⟩
      rw [← Array.getElem?_toList, Array.toList_append, Array.toList_map]
      exact h1
  · rintro e w' ⟨v, r, s', S', σ', hk, rfl, hav, hs'⟩
    obtain ⟨s'', hk', hs''⟩ := hs'.put hav hk
    exact ⟨s'', hk', S', σ', hs''⟩

theorem fine_conv {t u : Nat} {x : Operand} (ho : o.op = .convert t u x) (hs : SR C s S σ a w) {i i' : TI} {j d z j' d' z'} (ht : TypeOk P t i j d z) (hu : TypeOk P u i' j' d' z') {cv : Value} {v : AV}
    (hx : (∃ k k' n, a.eval x = .int k n ∧ i'.knd = some k' ∧ cv = .int k' (k'.wrap n)) ∨ (∃ b, a.eval x = .string b ∧ i'.str = true ∧ cv = .string b)) (hv : AVR w S σ s.nx v cv) (h : s.put o.dst v K) : Fine P C o a w K := by
  refine fine_of (cv := cv) ?_ hs hv h
  simp only [execOp, ho]
  refine run_v ?_
  rcases hx with ⟨k, k', n, h1, h2, rfl⟩ | ⟨b, h1, h2, rfl⟩
  · have hd := hu.knd k' h2
    subst hd
    simp only [convert, Sem.run_bind, ht.run_und, hu.run_und, Result.andThen_ok, h1]
    cases d <;> rfl
  · have hd := hu.str h2
    subst hd
    simp only [convert, Sem.run_bind, ht.run_und, hu.run_und, Result.andThen_ok, h1]
    cases d <;> rfl

theorem vs_view {w : World} {S : Nat → Prop} {sz : Nat} {ys : List (List PV)} {v : Value} (h : PVR w S (.vs sz ys) v) : ∃ A cap, v = .slice A ys.length cap ∧ (∀ r ∈ ys, r.length = sz) ∧ (A = none → ys = [] ∧ cap = 0) ∧
    ∀ ad, A = some ad → ∃ f : Nat → Nat → Value, (∀ i j, i < ys.length → j < sz → w.cell? (ad.add (i * sz + j)) = some (f i j) ∧ (f i j).oneCell' = true) ∧ ∀ (i j : Nat) r p, ys[i]? = some r → r[j]? = some p → PVR w S p (f i j) := by
  cases h with
  | vs _ _ A cap f hc hm hN hs hA h1 hp =>
    refine ⟨A, cap, rfl, hs, fun hn => ?_, fun ad had => ⟨f, fun i j hi hj => ?_, hp⟩⟩
    · refine ⟨?_, hN hn⟩
      cases ys with
      | nil => rfl
      | cons y ys => obtain ⟨b, o, h, _⟩ := hA (by simp); rw [hn] at h; cases h
    · obtain ⟨b, o, h, _, hcell⟩ := hA (by intro e; rw [e] at hi; simp at hi)
      rw [had] at h
      injection h with h
      subst h
      exact ⟨by rw [add_lit]; exact hcell i j hi hj, h1 i j hi hj⟩

end
end Go.Proofs.Ytijjagkeaehhbaa.Eng
