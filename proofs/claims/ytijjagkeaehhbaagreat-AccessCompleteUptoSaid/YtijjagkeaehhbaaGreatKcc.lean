/- The engine's operations are sound: builtins, calls, and all together. And what follows in this text; each statement bears its conditions. -/
import Derived.Test.YtijjagkeaehhbaaGreatKcb
/- The engine's operations are sound: builtins, calls, and all together. -/
set_option linter.unusedSimpArgs false
set_option linter.unusedVariables false
namespace Go.Proofs.YtijjagkeaehhbaaGreat.Eng
open Go.RowKit (Below)

section
variable {P : Program} {T : Tab} {C : Ctx} {o : Oper} {s : AS} {K : AS → Prop} {S : Nat → Prop} {σ : Nat → Value} {a : Act} {w : World}

theorem map_one {α β : Type} {f : α → β} {l : List α} {x : β} (h : l.map f = [x]) : ∃ q, l = [q] ∧ f q = x := by
  match l, h with
  | [q], h => exact ⟨q, rfl, by simpa using h⟩
theorem map_two {α β : Type} {f : α → β} {l : List α} {x y : β} (h : l.map f = [x, y]) : ∃ q r, l = [q, r] ∧ f q = x ∧ f r = y := by
  match l, h with
  | [q, r], h => exact ⟨q, r, rfl, by simp at h; exact h.1, by simp at h; exact h.2⟩
theorem arr_of {α : Type} {c : Array α} {l : List α} (h : c.toList = l) : c = l.toArray := by rw [← h]

theorem run_builtin {c : Call} {b : Builtin} (ho : o.op = .call c) (hc : c.callee = .builtin b) {vs : Array Value} (hvs : c.args.map a.eval = vs) {cv : Value} {w' : World}
    (hr : ∀ consts, (builtin b c.argTypes o.type consts vs).run P w = .ok (.value cv) w') : (execOp a.eval o).run P w = .ok (.value cv) w' := by
  simp only [execOp, ho, resolve, hc, hvs, Sem.run_bind, Sem.run_pure, Result.andThen_ok, invoke]
  exact hr _

/-- What an append leaves. -/
theorem fine_append {c : Call} (ho : o.op = .call c) (hc : c.callee = .builtin .append) {t e : Nat} (hty : c.argTypes = #[t, t]) {x y : Operand} (hargs : c.args = #[x, y]) (hs : SR C s S σ a w) {i ie : TI} {j d z j' d' z'}
    (ht : TypeOk P t i j d z) (hel : i.el = some e) (hte : TypeOk P e ie j' d' z') {id : Nat} {rows ys : List (List PV)} (hx : s.ev x = .one (.lf (.sl id))) (hid : s.hp id = some (.row e ie.size rows)) (hown : s.n0 ≤ id ∨ s.c0 id = true)
    {A : Option Addr} {cap : Nat} (hy : a.eval y = .slice A ys.length cap) (hyl : ∀ r ∈ ys, r.length = ie.size) (hN : A = none → ys = [] ∧ cap = 0)
    (hcells : ∀ ad, A = some ad → ∃ f : Nat → Nat → Value, (∀ i j, i < ys.length → j < ie.size → w.cell? (ad.add (i * ie.size + j)) = some (f i j) ∧ (f i j).oneCell' = true) ∧ ∀ (i j : Nat) r p, ys[i]? = some r → r[j]? = some p → PVR w S p (f i j))
    (hlen : A ≠ none → rows.length + ys.length ≤ 9223372036854775807) (hbytes : A ≠ none → (rows.length + ys.length) * ie.bytes ≤ 140737488355328)
    (h : ((s.poison id).setO id (.row e ie.size (rows ++ ys))).put o.dst (.lv (.sl id)) K) : Fine P C o a w K := by
  obtain ⟨hn, hv⟩ := (hx ▸ hs.ev x).sl_inv
  obtain ⟨hrl, xs, how, h1, hxs⟩ := row_open hs hid
  have hd := ht.el e hel
  subst hd
  have hvs : c.args.map a.eval = #[σ id, .slice A ys.length cap] := by rw [hargs]; simp [hv, hy]
  -- the run
  have run : ∃ v' w' news, (Builtin.append_ #[t, t] o.type #[σ id, .slice A ys.length cap]).run P w = .ok v' w' ∧ w'.ownsRow 0 e ie.size v' (rows.length + ys.length) (xs ++ news) ∧ w.grownBy w' (σ id).ownBlock ∧
      (v'.ownBlock = (σ id).ownBlock ∨ v'.ownBlock = some w.heap.size) ∧ (v'.oneCell' = true) ∧ (∀ v ∈ news, v.oneCell' = true) ∧ (∀ (i j : Nat) r p, ys[i]? = some r → r[j]? = some p → ∃ v, news[i * ie.size + j]? = some v ∧ PVR w S p v) := by
    cases A with
    | none =>
      obtain ⟨rfl, rfl⟩ := hN rfl
      have hr := run_append_owned_none (P := P) (w := w) 0 t o.type e j' ie.size ht.und hte.info (σ id) rows.length xs how
      refine ⟨σ id, w, [], hr, by simpa using how, ⟨rfl, rfl, rfl, Nat.le_refl _, fun _ _ _ => rfl⟩, .inl rfl, ?_, by simp, by simp⟩
      rcases how.2 with ⟨h4, _⟩ | ⟨g, cp, cur, h4, _⟩ <;> rw [h4] <;> rfl
    | some ad =>
      obtain ⟨f, hf1, hf2⟩ := hcells ad rfl
      have hpos := hte.pos
      have hnl : ((List.range (ys.length * ie.size)).map fun q => f (q / ie.size) (q % ie.size)).length = ys.length * ie.size := by simp
      have hdm : ∀ q, q < ys.length * ie.size → q / ie.size < ys.length ∧ q % ie.size < ie.size ∧ q / ie.size * ie.size + q % ie.size = q := fun q hq =>
        ⟨(Nat.div_lt_iff_lt_mul hpos).2 hq, Nat.mod_lt _ hpos, by rw [Nat.mul_comm]; exact Nat.div_add_mod q ie.size⟩
      obtain ⟨v', w', hr, how', hg, _, hat⟩ := run_append_own_at (P := P) w 0 t o.type e j' z' ie.size ie.bytes ht.und hte.info hte.zero hte.size hte.bytes hte.zsize hpos (σ id) rows.length xs how ad ys.length cap
        ((List.range (ys.length * ie.size)).map fun q => f (q / ie.size) (q % ie.size)) hnl (fun q u hu => by
          rw [List.getElem?_map] at hu
          cases hq : (List.range (ys.length * ie.size))[q]? with
          | none => simp [hq] at hu
          | some m =>
            obtain ⟨hm, rfl⟩ := List.getElem?_eq_some_iff.1 hq
            simp only [List.length_range] at hm
            simp only [hq, Option.map_some, Option.some.injEq, List.getElem_range] at hu
            subst hu
            obtain ⟨e1, e2, e3⟩ := hdm q hm
            have := (hf1 _ _ e1 e2).1
            rwa [e3] at this) (fun u hu => by
          simp only [List.mem_map, List.mem_range] at hu
          obtain ⟨q, hq, rfl⟩ := hu
          obtain ⟨e1, e2, _⟩ := hdm q hq
          exact (hf1 _ _ e1 e2).2) (by have := hlen (by simp); unfold maxLen; omega) (hbytes (by simp)) (Nat.zero_le _)
      refine ⟨v', w', _, hr, how', hg, hat, ?_, fun u hu => ?_, fun i j r p hi hj => ?_⟩
      · rcases how'.2 with ⟨h4, _⟩ | ⟨g, cp, cur, h4, _⟩ <;> rw [h4] <;> rfl
      · simp only [List.mem_map, List.mem_range] at hu
        obtain ⟨q, hq, rfl⟩ := hu
        obtain ⟨e1, e2, _⟩ := hdm q hq
        exact (hf1 _ _ e1 e2).2
      · have hil : i < ys.length := (List.getElem?_eq_some_iff.1 hi).1
        have hjl : j < ie.size := by have := (List.getElem?_eq_some_iff.1 hj).1; have := hyl r (List.mem_of_getElem? hi); omega
        have hq := flat_lt hil hjl
        refine ⟨f i j, ?_, hf2 i j r p hi hj⟩
        rw [List.getElem?_map, List.getElem?_range hq]
        obtain ⟨e1, e2, e3⟩ := hdm _ hq
        have := flat_ne e2 hjl e3
        simp [this.1, this.2]
  obtain ⟨v', w', news, hr, how', hg, hat, hv1, hn1, hnp⟩ := run
  have hblk : ∀ b, blk v' = some b → blk (σ id) = some b ∨ w.heap.size ≤ b := by
    intro b hb
    have ob : ∀ u : Value, u.ownBlock = some b → ∃ (c : Nat) (l : Option Nat) (n : Nat × Nat), u = .slice (some ⟨b, c, l⟩) n.1 n.2 := fun u hu => by
      cases u <;> simp [Value.ownBlock] at hu
      rename_i A n c
      cases A with
      | none => simp at hu
      | some ad => obtain ⟨b', o', s'⟩ := ad; simp at hu; subst hu; exact ⟨o', s', (n, c), rfl⟩
    have hvo : v'.ownBlock = some b := by
      rcases how'.2 with ⟨h4, _⟩ | ⟨g, cp, cur, h4, _⟩
      · rw [h4] at hb; simp [blk] at hb
      · rw [h4] at hb ⊢; simpa [blk, Value.ownBlock] using hb
    rcases hat with h5 | h5
    · rw [h5] at hvo
      obtain ⟨c, l, n, h6⟩ := ob _ hvo
      left; rw [h6]; rfl
    · rw [hvo] at h5
      right; simp at h5; omega
  obtain ⟨σ', hσ', hs'⟩ := hs.move (o' := .row e ie.size (rows ++ ys)) hid hown (v' := v') (w' := w') (fun k hk hne => hg.block k hk (fun e => hne (by
      rw [e]
      rcases how.2 with ⟨h4, _⟩ | ⟨g, cp, cur, h4, _⟩ <;> rw [h4] <;> rfl))) hg.size hg.os hg.tape hg.output hblk (fun σ' hσ' => by
    refine ⟨fun r hr => ?_, xs ++ news, by rw [hσ', List.length_append]; exact how', fun v hv => ?_, fun i j r p hi hj => ?_⟩
    · rcases List.mem_append.1 hr with h | h
      · exact hrl r h
      · exact hyl r h
    · rcases List.mem_append.1 hv with h | h
      · exact h1 v h
      · exact hn1 v h
    · have hS : ∀ b, S b → w'.heap[b]? = w.heap[b]? := fun b hb => hg.block b (hs.lt b hb) (fun e => by
        refine hs.hp.notS id _ b hid ?_ hb
        rcases how.2 with ⟨h4, _⟩ | ⟨g, cp, cur, h4, _⟩
        · rw [h4] at e; simp [Value.ownBlock] at e
        · rw [h4] at e ⊢; simp [Value.ownBlock] at e; simp [blk, e])
      by_cases hil : i < rows.length
      · rw [List.getElem?_append_left hil] at hi
        have hjl : j < ie.size := by have := (List.getElem?_eq_some_iff.1 hj).1; have := hrl r (List.mem_of_getElem? hi); omega
        obtain ⟨v, h2, h3⟩ := hxs i j r p hi hj
        exact ⟨v, by rw [List.getElem?_append_left (by rw [how.1]; exact flat_lt hil hjl)]; exact h2, h3.mono hS (fun _ h => h)⟩
      · rw [List.getElem?_append_right (by omega)] at hi
        obtain ⟨v, h2, h3⟩ := hnp _ j r p hi hj
        refine ⟨v, ?_, h3.mono hS (fun _ h => h)⟩
        have e1 : i * ie.size = rows.length * ie.size + (i - rows.length) * ie.size := by rw [← Nat.add_mul]; congr 1; omega
        rw [List.getElem?_append_right (by rw [how.1, e1]; omega), how.1, e1]
        rw [show rows.length * ie.size + (i - rows.length) * ie.size + j - rows.length * ie.size = (i - rows.length) * ie.size + j from by omega]
        exact h2)
  refine fine_of (cv := v') (run_builtin ho hc hvs (fun consts => ?_)) hs' (.one (.lf (by rw [← hσ']; exact .sl hn (by rw [hσ']; exact hv1)))) h
  rw [hty]
  exact run_v hr

theorem fine_len {c : Call} (ho : o.op = .call c) (hc : c.callee = .builtin .len) {t : Nat} {ts : List Nat} (hty : c.argTypes.toList = t :: ts) {x : Operand} (hargs : c.args.toList = [x]) (hs : SR C s S σ a w) {i : TI} {j d z}
    (ht : TypeOk P t i j d z) {n : Int} (hn : (i.str = true ∧ ∃ b, a.eval x = .string b ∧ n = b.size) ∨ (∃ e, i.el = some e) ∧ ∃ A l c, a.eval x = .slice A l c ∧ n = l) (h : s.put o.dst (.i n) K) : Fine P C o a w K := by
  have hvs : c.args.map a.eval = #[a.eval x] := by rw [arr_of hargs]; simp
  have hty0 : c.argTypes[0]? = some t := by rw [arr_of hty]; simp
  refine fine_of (cv := .int .i64 n) (run_builtin ho hc hvs (fun consts => ?_)) hs (.int _ _) h
  refine run_v ?_
  rcases hn with ⟨h1, b, h2, rfl⟩ | ⟨⟨e, h1⟩, A, l, c', h2, rfl⟩
  · have hd := ht.str h1
    subst hd
    simp [Builtin.len_, hty0, h2, ht.run_und, goInt]
  · have hd := ht.el e h1
    subst hd
    simp [Builtin.len_, hty0, h2, ht.run_und, goInt]

theorem fine_max {c : Call} (ho : o.op = .call c) (hc : c.callee = .builtin .max) {x y : Operand} (hargs : c.args.toList = [x, y]) (hs : SR C s S σ a w) {k : IntKind} {m n : Int}
    (hx : a.eval x = .int k m) (hy : a.eval y = .int k n) (h : s.put o.dst (.pv (.int k (if m < n then n else m))) K) : Fine P C o a w K := by
  have hvs : c.args.map a.eval = #[.int k m, .int k n] := by rw [arr_of hargs]; simp [hx, hy]
  refine fine_of (cv := .int k (if m < n then n else m)) (run_builtin ho hc hvs (fun consts => ?_)) hs (.int _ _) h
  exact run_v (by simp [Builtin.max_, Builtin.max2])
theorem fine_min {c : Call} (ho : o.op = .call c) (hc : c.callee = .builtin .min) {x y : Operand} (hargs : c.args.toList = [x, y]) (hs : SR C s S σ a w) {k : IntKind} {m n : Int}
    (hx : a.eval x = .int k m) (hy : a.eval y = .int k n) (h : s.put o.dst (.pv (.int k (if n < m then n else m))) K) : Fine P C o a w K := by
  have hvs : c.args.map a.eval = #[.int k m, .int k n] := by rw [arr_of hargs]; simp [hx, hy]
  refine fine_of (cv := .int k (if n < m then n else m)) (run_builtin ho hc hvs (fun consts => ?_)) hs (.int _ _) h
  exact run_v (by simp [Builtin.min_, Builtin.min2])

/-- A call of a function with a body. -/
theorem fine_call {c : Call} (ho : o.op = .call c) {f : Operand} (hc : c.callee = .value f) {g : Nat} {caps : List Value} (hf : a.eval f = .func (.func g) #[] caps.toArray) (hs : SR C s S σ a w) {args : List AV}
    (hl : (c.args.toList.map a.eval ++ caps).length = args.length) (hargs : ∀ (i : Nat) x, args[i]? = some x → ∃ v, (c.args.toList.map a.eval ++ caps)[i]? = some v ∧ AVR w S σ s.nx x v)
    (h : CallR P g args s fun v s' => s'.put o.dst v K) : Fine P C o a w K := by
  intro Q
  obtain ⟨he, hcall⟩ := h
  have hrun : (execOp a.eval o).run P w = .ok (.enter g (c.args.map a.eval ++ caps.toArray)) w := by
    simp only [execOp, ho, resolve, hc, hf, Sem.run_bind, Sem.run_pure, Result.andThen_ok, Deferred.ofValue, invoke, Array.empty_append]
    exact he _ _
  unfold Oper.wp
  rw [hrun]
  have harr : (c.args.map a.eval ++ caps.toArray) = (c.args.toList.map a.eval ++ caps).toArray := by
    apply Array.toList_inj.1
    simp
  refine (hcall C S σ a w hs _ (by rw [harr]; simpa using hl) (fun i x hi => ?_)).mono ?_
  · obtain ⟨v, h1, h2⟩ := hargs i x hi
    exact ⟨v, by rw [harr]; simpa using h1, h2⟩
  · rintro e w' ⟨v, r, s', S', σ', hk, rfl, hav, hs'⟩
    obtain ⟨s'', hk', hs''⟩ := hs'.put hav hk
    exact ⟨s'', hk', S', σ', hs''⟩

theorem fine_invoke {c : Call} (ho : o.op = .call c) {r : Operand} {mth : String} (hc : c.callee = .invoke r mth) (hs : SR C s S σ a w) {f : Nat} {y : AV} (hm : MethR P mth (s.ev r) f y) {args : List AV} (hl : c.args.toList.length = args.length)
    (hargs : ∀ (i : Nat) x, args[i]? = some x → ∃ v, (c.args.toList.map a.eval)[i]? = some v ∧ AVR w S σ s.nx x v)
    (h : CallR P f (y :: args) s fun v s' => s'.put o.dst v K) : Fine P C o a w K := by
  intro Q
  obtain ⟨he, hcall⟩ := h
  obtain ⟨u, hu, hrun'⟩ := hm.run w S σ s.nx (a.eval r) (hs.ev r)
  have hrun : (execOp a.eval o).run P w = .ok (.enter f (#[u] ++ c.args.map a.eval)) w := by
    simp only [execOp, ho, resolve, hc, Sem.run_bind, Sem.run_pure, Result.andThen_ok]
    rw [hrun']
    exact he _ _
  unfold Oper.wp
  rw [hrun]
  have hl' : c.args.size = args.length := by simpa using hl
  refine (hcall C S σ a w hs _ (by simp [hl']; omega) (fun i x hi => ?_)).mono ?_
  · match i with
    | 0 =>
      obtain rfl : y = x := Option.some.inj hi
      exact ⟨u, by rw [← Array.getElem?_toList, Array.toList_append]; rfl, hu⟩
    | i + 1 =>
      obtain ⟨v, h1, h2⟩ := hargs i x hi
      refine ⟨v, ?_, h2⟩
      rw [← Array.getElem?_toList, Array.toList_append, Array.toList_map]
      exact h1
  · rintro e w' ⟨v, r, s', S', σ', hk, rfl, hav, hs'⟩
    obtain ⟨s'', hk', hs''⟩ := hs'.put hav hk
    exact ⟨s'', hk', S', σ', hs''⟩

theorem fine_conv {t u : Nat} {x : Operand} (ho : o.op = .convert t u x) (hs : SR C s S σ a w) {i i' : TI} {j d z j' d' z'} (ht : TypeOk P t i j d z) (hu : TypeOk P u i' j' d' z') {cv : Value} {v : AV}
    (hx : (∃ k k' n, a.eval x = .int k n ∧ i'.knd = some k' ∧ cv = .int k' (k'.wrap n)) ∨ (∃ b, a.eval x = .string b ∧ i'.str = true ∧ cv = .string b)) (hv : AVR w S σ s.nx v cv) (h : s.put o.dst v K) : Fine P C o a w K := by
  refine fine_of (cv := cv) ?_ hs hv h
  simp only [execOp, ho]
  refine run_v ?_
  rcases hx with ⟨k, k', n, h1, h2, rfl⟩ | ⟨b, h1, h2, rfl⟩
  · have hd := hu.knd k' h2
    subst hd
    simp only [convert, Sem.run_bind, ht.run_und, hu.run_und, Result.andThen_ok, h1]
    cases d <;> rfl
  · have hd := hu.str h2
    subst hd
    simp only [convert, Sem.run_bind, ht.run_und, hu.run_und, Result.andThen_ok, h1]
    cases d <;> rfl

theorem vs_view {w : World} {S : Nat → Prop} {sz : Nat} {ys : List (List PV)} {v : Value} (h : PVR w S (.vs sz ys) v) : ∃ A cap, v = .slice A ys.length cap ∧ (∀ r ∈ ys, r.length = sz) ∧ (A = none → ys = [] ∧ cap = 0) ∧
    ∀ ad, A = some ad → ∃ f : Nat → Nat → Value, (∀ i j, i < ys.length → j < sz → w.cell? (ad.add (i * sz + j)) = some (f i j) ∧ (f i j).oneCell' = true) ∧ ∀ (i j : Nat) r p, ys[i]? = some r → r[j]? = some p → PVR w S p (f i j) := by
  cases h with
  | vs _ _ A cap f hc hm hN hs hA h1 hp =>
    refine ⟨A, cap, rfl, hs, fun hn => ?_, fun ad had => ⟨f, fun i j hi hj => ?_, hp⟩⟩
    · refine ⟨?_, hN hn⟩
      cases ys with
      | nil => rfl
      | cons y ys => obtain ⟨b, o, h, _⟩ := hA (by simp); rw [hn] at h; cases h
    · obtain ⟨b, o, h, _, hcell⟩ := hA (by intro e; rw [e] at hi; simp at hi)
      rw [had] at h
      injection h with h
      subst h
      exact ⟨by rw [add_lit]; exact hcell i j hi hj, h1 i j hi hj⟩

end
end Go.Proofs.YtijjagkeaehhbaaGreat.Eng

/- The engine: every operation's condition is sound. -/
set_option linter.unusedSimpArgs false
set_option linter.unusedVariables false
namespace Go.Proofs.YtijjagkeaehhbaaGreat.Eng
open Go.RowKit (Below)

section
variable {P : Program} {T : Tab} {C : Ctx} {o : Oper} {s : AS} {K : AS → Prop} {S : Nat → Prop} {σ : Nat → Value} {a : Act} {w : World}

theorem AVR.nils_inv {w S σ n v} (h : AVR w S σ n (.one (.lf (.pv .nils))) v) : v = .slice none 0 0 := by cases h.pv_inv; rfl

theorem sl_view {id t sz : Nat} {ys : List (List PV)} (hs : SR C s S σ a w) (hid : s.hp id = some (.row t sz ys)) : ∃ A cap, σ id = .slice A ys.length cap ∧ (∀ r ∈ ys, r.length = sz) ∧ (A = none → ys = [] ∧ cap = 0) ∧
    ∀ ad, A = some ad → ∃ f : Nat → Nat → Value, (∀ i j, i < ys.length → j < sz → w.cell? (ad.add (i * sz + j)) = some (f i j) ∧ (f i j).oneCell' = true) ∧ ∀ (i j : Nat) r p, ys[i]? = some r → r[j]? = some p → PVR w S p (f i j) := by
  obtain ⟨hl, xs, how, h1, hx⟩ := row_open hs hid
  rcases how.2 with ⟨h4, h5⟩ | ⟨g, cap, cur, h4, _, hh, _, _, _, htake⟩
  · exact ⟨none, 0, by rw [h4, h5], hl, fun _ => ⟨List.eq_nil_of_length_eq_zero h5, rfl⟩, fun ad h => by cases h⟩
  · refine ⟨some ⟨g, 0, none⟩, cap, h4, hl, (fun h => by cases h), fun ad had => ⟨fun i j => (xs[i * sz + j]?).getD undef, fun i j hi hj => ?_, fun i j r p hi hj => ?_⟩⟩
    · injection had with had
      subst had
      have hlt : i * sz + j < xs.length := by rw [how.1]; exact flat_lt hi hj
      have hget : xs[i * sz + j]? = some xs[i * sz + j] := List.getElem?_eq_getElem hlt
      simp only [hget, Option.getD_some]
      exact ⟨how.cells (g := g) (by rw [h4]; rfl) _ _ hget, h1 _ (List.getElem_mem hlt)⟩
    · obtain ⟨v, h2, h3⟩ := hx i j r p hi hj
      simpa [h2] using h3

theorem builtin_sound (hT : TOK P T) {c : Call} (ho : o.op = .call c) {b : Builtin} (hc : c.callee = .builtin b) (hs : SR C s S σ a w)
    (h : builtinA T b c.argTypes.toList (c.args.toList.map s.ev) s fun v s' => s'.put o.dst v K) : Fine P C o a w K := by
  unfold builtinA at h
  split at h
  · -- len
    rename_i t ts x hty hargs
    obtain ⟨q, hq, hqx⟩ := map_one hargs
    split at h
    · rename_i i hi
      obtain ⟨j, d, z, ht⟩ := typeOk (hT t i hi)
      have hv := hs.ev q
      rw [hqx] at hv
      split at h
      · rename_i hst hel
        exact fine_len ho hc hty hq hs ht (.inl ⟨hst, _, hv.str_inv, rfl⟩) h
      · rename_i e hst hel
        have : a.eval q = .slice none 0 0 := hv.nils_inv
        exact fine_len ho hc hty hq hs ht (.inr ⟨⟨_, hel⟩, _, 0, _, this, rfl⟩) h
      · rename_i sz rows hst hel
        obtain ⟨A, cap, h1, _⟩ := vs_view hv.pv_inv
        exact fine_len ho hc hty hq hs ht (.inr ⟨⟨_, hel⟩, _, _, _, h1, rfl⟩) h
      · rename_i id hst hel
        split at h
        · rename_i te sz rows hid
          obtain ⟨A, cap, h1, _⟩ := sl_view hs hid
          exact fine_len ho hc hty hq hs ht (.inr ⟨⟨_, hel⟩, _, _, _, hv.sl_inv.2.trans h1, rfl⟩) h
        · exact h.elim
      · exact h.elim
    · exact h.elim
  · -- append
    rename_i t t' x y hty hargs
    obtain ⟨q, r, hqr, hqx, hry⟩ := map_two hargs
    split at h
    · rename_i i htt hi
      have htt := of_decide_eq_true htt
      subst htt
      obtain ⟨j, d, z, ht⟩ := typeOk (hT t i hi)
      split at h
      · rename_i e hel
        split at h
        · rename_i ie hie
          obtain ⟨j', d', z', hte⟩ := typeOk (hT e ie hie)
          split at h
          · rename_i id
            split at h
            · rename_i te sz rows hid
              split at h
              · rename_i e1 e2 e3
                have e1 := Nat.eq_of_beq_eq_true e1
                have e2 := Nat.eq_of_beq_eq_true e2
                subst e1 e2
                have hown : s.n0 ≤ id ∨ s.c0 id = true := by
                  rcases Bool.or_eq_true_iff.1 e3 with h | h
                  · exact .inl (Nat.le_of_ble_eq_true h)
                  · exact .inr h
                have hv := hs.ev r
                rw [hry] at hv
                have hargs' : c.args = #[q, r] := arr_of hqr
                have hty' : c.argTypes = #[t, t] := arr_of hty
                split at h
                · rename_i sz' ys
                  obtain ⟨⟨rfl, hb, hl⟩, hk⟩ := h
                  obtain ⟨A, cap, h1, h2, h3, h4⟩ := vs_view hv.pv_inv
                  exact fine_append ho hc hty' hargs' hs ht hel hte hqx hid hown h1 h2 h3 h4 (fun _ => hl) (fun _ => hb) hk
                · have h1 : a.eval r = .slice none 0 0 := hv.nils_inv
                  exact fine_append (ys := []) ho hc hty' hargs' hs ht hel hte hqx hid hown h1 (by simp) (fun _ => ⟨rfl, rfl⟩) (fun ad h => by cases h) (fun h => absurd rfl h) (fun h => absurd rfl h) (by simpa using h)
                · rename_i id'
                  split at h
                  · rename_i te' sz' ys hid'
                    obtain ⟨⟨hne, rfl, rfl, hb, hl⟩, hk⟩ := h
                    have hne : id' ≠ id := fun e => by subst e; rw [Nat.beq_refl] at hne; cases hne
                    obtain ⟨A, cap, h1, h2, h3, h4⟩ := sl_view hs hid'
                    exact fine_append ho hc hty' hargs' hs ht hel hte hqx hid hown (hv.sl_inv.2.trans h1) h2 h3 h4 (fun _ => hl) (fun _ => hb) hk
                  · exact h.elim
                · exact h.elim
              · exact h.elim
            · exact h.elim
          · exact h.elim
        · exact h.elim
      · exact h.elim
    · exact h.elim
  · -- max
    rename_i k m k' n hargs
    obtain ⟨q, r, hqr, hqx, hry⟩ := map_two hargs
    split at h
    · rename_i hk
      have hk := of_decide_eq_true hk
      subst hk
      exact fine_max ho hc hqr hs (hqx ▸ hs.ev q).int_inv (hry ▸ hs.ev r).int_inv h
    · exact h.elim
  · rename_i k m k' n hargs
    obtain ⟨q, r, hqr, hqx, hry⟩ := map_two hargs
    split at h
    · rename_i hk
      have hk := of_decide_eq_true hk
      subst hk
      exact fine_min ho hc hqr hs (hqx ▸ hs.ev q).int_inv (hry ▸ hs.ev r).int_inv h
    · exact h.elim
  · exact h.elim

theorem vcOp_sound (hT : TOK P T) (hs : SR C s S σ a w) (h : vcOp P T o s K) : Fine P C o a w K := by
  unfold vcOp at h
  split at h
  case h_1 x ho => exact fine_move (.inl ho) hs h
  case h_2 x ho => exact fine_move (.inr ho) hs h
  case h_3 c x y ho =>
    split at h
    · rename_i t hc
      exact fine_pick ho hs hc h.1 h.2
    · exact h.elim
  case h_4 op t x y yt ho => exact fine_bin ho hs h
  case h_5 op t x ho =>
    split at h
    · rename_i b hx; exact fine_not ho hs hx h
    · rename_i k n hx; exact fine_neg ho hs hx h
    · exact h.elim
  case h_6 x ho =>
    split at h
    · rename_i i off hx
      obtain ⟨_, b, _, hb⟩ := (hx ▸ hs.ev x).ptr_inv
      exact fine_nilCheck ho hs hb (by rw [hx]; exact h)
    · rename_i i z j off hx
      obtain ⟨_, b, m, c, _, hb⟩ := (hx ▸ hs.ev x).rp_inv
      exact fine_nilCheck ho hs hb (by rw [hx]; exact h)
    · rename_i r off hx
      obtain ⟨b, q, f, hb, _⟩ := (hx ▸ hs.ev x).cp_inv
      exact fine_nilCheck ho hs hb (by rw [hx]; exact h)
    · exact fine_pure hs h
  case h_7 x k ho =>
    split at h
    · rename_i rs hx
      split at h
      · rename_i r hk; exact fine_extract ho hs hx hk h
      · exact h.elim
    · exact h.elim
  case h_8 t x ho =>
    split at h
    · rename_i i cs hi hc
      split at h
      · exact fine_box ho hs hc h
      · exact h.elim
    · rename_i cs hi hc
      exact fine_box ho hs hc h
    · exact h.elim
  case h_9 t ho =>
    split at h
    · rename_i i hi
      obtain ⟨j, d, z, ht⟩ := typeOk (hT t i hi)
      exact fine_alloc ho hs ht h
    · exact h.elim
  case h_10 t p ho =>
    split at h
    · rename_i i hi
      obtain ⟨j, d, z, ht⟩ := typeOk (hT t i hi)
      split at h
      · rename_i id off hp
        split at h
        · rename_i t' cs hid
          split at h
          · rename_i v hv; exact fine_load_box ho hs ht hp hid hv h
          · exact h.elim
        · exact h.elim
      · rename_i id sz idx off hp
        split at h
        · rename_i t' sz' rows hid
          obtain ⟨r, hr, rfl, h⟩ := h
          split at h
          · rename_i v hv; exact fine_load_rp ho hs ht hp hid hr hv h
          · exact h.elim
        · exact h.elim
      · rename_i r off hp
        split at h
        · rename_i v hv; exact fine_load_cp ho hs ht hp hv h
        · exact h.elim
      · exact h.elim
    · exact h.elim
  case h_11 t p x ho =>
    split at h
    · rename_i i xs hi hxs
      obtain ⟨j, d, z, ht⟩ := typeOk (hT t i hi)
      split at h
      · rename_i hlen
        have hlen := Nat.eq_of_beq_eq_true hlen
        split at h
        · rename_i id off hp
          split at h
          · rename_i t' cs hid
            split at h
            · rename_i hle; exact fine_store_box ho hs ht hxs hlen hp hid (Nat.le_of_ble_eq_true hle) h
            · exact h.elim
          · exact h.elim
        · rename_i id sz idx off hp
          split at h
          · rename_i t' sz' rows ps hid hps
            obtain ⟨r, hr, rfl, hfit, h⟩ := h
            have hps := pures_spec hps
            subst hps
            exact fine_store_rp ho hs ht hxs hlen hp hid hr hfit h
          · exact h.elim
        · exact h.elim
      · exact h.elim
    · exact h.elim
  case h_12 t p f ho =>
    split at h
    · rename_i i hi
      obtain ⟨j, d, z, ht⟩ := typeOk (hT t i hi)
      split at h
      · rename_i fo hfo; exact fine_fieldAddr ho hs ht hfo h
      · exact h.elim
    · exact h.elim
  case h_13 t x f ho =>
    split at h
    · rename_i i hi
      obtain ⟨j, d, z, ht⟩ := typeOk (hT t i hi)
      split at h
      · rename_i fo xs hfo hx
        split at h
        · rename_i v hv; exact fine_field ho hs ht hfo hx hv h
        · exact h.elim
      · exact h.elim
    · exact h.elim
  case h_14 t x ix ho =>
    split at h
    · rename_i i hi
      obtain ⟨j, d, z, ht⟩ := typeOk (hT t i hi)
      split at h
      · rename_i e hel
        split at h
        · rename_i ie sz rows k n hie hx hix
          obtain ⟨j', d', z', hte⟩ := typeOk (hT e ie hie)
          obtain ⟨r, h0, hr, hsz, h⟩ := h
          exact fine_index_vs ho hs ht hel hte hx hix h0 hr hsz h
        · rename_i ie id k n hie hx hix
          obtain ⟨j', d', z', hte⟩ := typeOk (hT e ie hie)
          split at h
          · rename_i t' sz rows hid
            obtain ⟨⟨h0, h1, hsz⟩, h⟩ := h
            exact fine_index_sl ho hs ht hel hte hx hid hix h0 h1 hsz h
          · exact h.elim
        · exact h.elim
      · exact h.elim
    · exact h.elim
  case h_15 t x ix ho =>
    split at h
    · rename_i i hi
      obtain ⟨j, d, z, ht⟩ := typeOk (hT t i hi)
      split at h
      · rename_i b k n hst hx hix
        obtain ⟨c, h0, hc, h⟩ := h
        exact fine_index_str ho hs ht hst hx hix h0 hc h
      · exact h.elim
    · exact h.elim
  case h_16 t parts ho =>
    split at h
    · rename_i i hi
      obtain ⟨j, d, z, ht⟩ := typeOk (hT t i hi)
      split at h
      · rename_i cs hagg hf; exact fine_build ho hs ht hf (ht.st hagg) h
      · exact h.elim
    · exact fine_pure hs h
  case h_17 t len parts ho =>
    split at h
    · rename_i i hi
      obtain ⟨j, d, z, ht⟩ := typeOk (hT t i hi)
      split at h
      · rename_i e hel
        split at h
        · rename_i ie hie
          obtain ⟨j', d', z', hte⟩ := typeOk (hT e ie hie)
          split at h
          · rename_i cs hle hf
            split at h
            · rename_i ps hps
              have hps := pures_spec hps
              subst hps
              obtain ⟨own, h⟩ := h
              cases own with
              | true => exact fine_buildSlice ho hs ht hel hte (Nat.le_of_ble_eq_true hle) hf h
              | false => exact fine_buildPure ho hs ht hel hte (Nat.le_of_ble_eq_true hle) hf h
            · exact h.elim
          · exact h.elim
        · exact h.elim
      · exact h.elim
    · exact h.elim
  case h_18 g first caps ho =>
    split at h
    · rename_i ids hf hc; exact fine_makeFunc ho hs hf hc h
    · exact h.elim
  case h_19 c ho =>
    split at h
    · rename_i b hb; exact builtin_sound hT ho hb hs h
    · rename_i f hf
      obtain ⟨hl1, hl2⟩ := map_rel hs c.args.toList
      split at h
      · rename_i g hg
        have he : a.eval f = .func (.func g) #[] ([] : List Value).toArray := by
          have := (hg ▸ hs.ev f).pv_inv
          generalize a.eval f = v at this
          cases this
          rfl
        obtain ⟨how, h⟩ := h
        cases how with
        | call => exact fine_call (caps := []) ho hf he hs (by simp) (by simpa using hl2) h
        | pure => exact fine_pure hs h
      · rename_i g ids hg
        have he : a.eval f = .func (.func g) #[] (ids.map σ).toArray ∧ ∀ i ∈ ids, i < s.nx ∧ ∃ b, σ i = .pointer (some ⟨b, 0, none⟩) := by
          have := hg ▸ hs.ev f
          generalize a.eval f = v at this
          cases this with | one this => cases this with | lf this => cases this with | clo hn => exact ⟨rfl, hn⟩
        refine fine_call (caps := ids.map σ) ho hf he.1 hs (by simp [clos]) (fun i x hi => ?_) h
        by_cases hlt : i < c.args.toList.length
        · rw [List.getElem?_append_left (by simpa using hlt)] at hi
          obtain ⟨v, h1, h2⟩ := hl2 i x hi
          exact ⟨v, by rw [List.getElem?_append_left (by simpa using hlt)]; exact h1, h2⟩
        · rw [List.getElem?_append_right (by simpa using hlt), List.length_map] at hi
          unfold clos at hi
          rw [List.getElem?_map] at hi
          generalize hk : i - c.args.toList.length = k at hi
          cases hq : ids[k]? with
          | none => rw [hq] at hi; cases hi
          | some q =>
            rw [hq] at hi
            injection hi with hi
            subst hi
            obtain ⟨hn, b, hb⟩ := he.2 q (List.mem_of_getElem? hq)
            refine ⟨σ q, by rw [List.getElem?_append_right (by simpa using hlt), List.length_map, List.getElem?_map, hk, hq]; rfl, ?_⟩
            rw [hb]
            exact .one (.lf (.ptr hn hb))
      · exact h.elim
    · rename_i r m hr
      obtain ⟨f, y, h1, h2⟩ := h
      obtain ⟨hl1, hl2⟩ := map_rel hs c.args.toList
      exact fine_invoke ho hr hs h1 (by simp) hl2 h2
  case h_20 t u x ho =>
    split at h
    · rename_i i j k n hi hj hx
      obtain ⟨j1, d, z, ht⟩ := typeOk (hT t _ hi)
      obtain ⟨j2, d', z', hu⟩ := typeOk (hT u _ hj)
      split at h
      · rename_i k' hk
        exact fine_conv ho hs ht hu (.inl ⟨_, k', _, (hx ▸ hs.ev x).int_inv, hk, rfl⟩) (.int _ _) h
      · exact h.elim
    · rename_i i j b hi hj hx
      obtain ⟨j1, d, z, ht⟩ := typeOk (hT t _ hi)
      obtain ⟨j2, d', z', hu⟩ := typeOk (hT u _ hj)
      split at h
      · rename_i hk
        exact fine_conv ho hs ht hu (.inr ⟨_, (hx ▸ hs.ev x).str_inv, hk, rfl⟩) (.str _) h
      · exact h.elim
    · exact h.elim
  case h_21 t l c ho =>
    split at h
    · rename_i i hi
      obtain ⟨j, d, z, ht⟩ := typeOk (hT t i hi)
      split at h
      · rename_i e hel
        split at h
        · rename_i ie k1 n1 k2 n2 hie h1 h2
          obtain ⟨j', d', z', hte⟩ := typeOk (hT e ie hie)
          obtain ⟨⟨rfl, h3, h4, h5⟩, h⟩ := h
          exact fine_make ho hs ht hel hte (h1 ▸ hs.ev l).int_inv (h2 ▸ hs.ev c).int_inv h3 h4 h5 h
        · exact h.elim
      · exact h.elim
    · exact h.elim
  case h_22 => exact fine_pure hs h

end
end Go.Proofs.YtijjagkeaehhbaaGreat.Eng

/- The engine: pure calls; a new object under a given name; one operation as a step that may be told apart from its neighbours. -/
set_option linter.unusedSimpArgs false
set_option linter.unusedVariables false
namespace Go.Proofs.YtijjagkeaehhbaaGreat.Eng
open Go.RowKit (Below)

def LV.ids : LV → List Nat
  | .ptr i _ => [i]
  | .rp i _ _ _ => [i]
  | .sl i => [i]
  | .clo _ l => l
  | _ => []
def lids : List LV → List Nat
  | [] => []
  | x :: r => x.ids ++ lids r
def RV.ids : RV → List Nat
  | .lf x => x.ids
  | .agg xs => lids xs
def rids : List RV → List Nat
  | [] => []
  | x :: r => x.ids ++ rids r
def AV.ids : AV → List Nat
  | .one r => r.ids
  | .tup rs => rids rs
def aids : List AV → List Nat
  | [] => []
  | x :: r => x.ids ++ aids r

theorem LVR.away {w w' : World} {S S' : Nat → Prop} {σ σ' : Nat → Value} {n n' : Nat} (hk : ∀ b, S b → w'.heap[b]? = w.heap[b]?) (hS : ∀ b, S b → S' b) {x : LV} {v : Value} (h : LVR w S σ n x v)
    (hσ : ∀ i ∈ x.ids, i < n' ∧ σ' i = σ i) : LVR w' S' σ' n' x v := by
  cases h with
  | pv h => exact .pv (h.mono hk hS)
  | any v h => exact .any v h
  | ptr hi h => obtain ⟨h1, h2⟩ := hσ _ (List.mem_singleton.2 rfl); exact .ptr h1 (h2.trans h)
  | rp hi h => obtain ⟨h1, h2⟩ := hσ _ (List.mem_singleton.2 rfl); exact .rp h1 (h2.trans h)
  | @sl i hi h1 => obtain ⟨h3, h2⟩ := hσ _ (List.mem_singleton.2 rfl); rw [← h2]; exact .sl h3 (by rw [h2]; exact h1)
  | @clo g ids hi =>
    have : ids.map σ = ids.map σ' := List.map_congr_left fun i hm => ((hσ i hm).2).symm
    rw [this]
    exact .clo fun i hm => ⟨(hσ i hm).1, let ⟨b, hb⟩ := (hi i hm).2; ⟨b, (hσ i hm).2.trans hb⟩⟩
theorem mem_lids {xs : List LV} {i : Nat} {x : LV} (hx : xs[i]? = some x) {k : Nat} (hk : k ∈ x.ids) : k ∈ lids xs := by
  induction xs generalizing i with
  | nil => simp at hx
  | cons y r ih =>
    match i with
    | 0 => simp only [List.getElem?_cons_zero, Option.some.injEq] at hx; subst hx; exact List.mem_append_left _ hk
    | i + 1 => exact List.mem_append_right _ (ih (by simpa using hx))
theorem mem_rids {xs : List RV} {i : Nat} {x : RV} (hx : xs[i]? = some x) {k : Nat} (hk : k ∈ x.ids) : k ∈ rids xs := by
  induction xs generalizing i with
  | nil => simp at hx
  | cons y r ih =>
    match i with
    | 0 => simp only [List.getElem?_cons_zero, Option.some.injEq] at hx; subst hx; exact List.mem_append_left _ hk
    | i + 1 => exact List.mem_append_right _ (ih (by simpa using hx))
theorem mem_aids {xs : List AV} {i : Nat} {x : AV} (hx : xs[i]? = some x) {k : Nat} (hk : k ∈ x.ids) : k ∈ aids xs := by
  induction xs generalizing i with
  | nil => simp at hx
  | cons y r ih =>
    match i with
    | 0 => simp only [List.getElem?_cons_zero, Option.some.injEq] at hx; subst hx; exact List.mem_append_left _ hk
    | i + 1 => exact List.mem_append_right _ (ih (by simpa using hx))
theorem LsR.away {w w' : World} {S S' : Nat → Prop} {σ σ' : Nat → Value} {n n' : Nat} (hk : ∀ b, S b → w'.heap[b]? = w.heap[b]?) (hS : ∀ b, S b → S' b) {xs : List LV} {vs : Array Value} (h : LsR w S σ n xs vs)
    (hσ : ∀ i ∈ lids xs, i < n' ∧ σ' i = σ i) : LsR w' S' σ' n' xs vs :=
  ⟨h.1, fun i x hi => let ⟨v, hv, hr⟩ := h.2 i x hi; ⟨v, hv, hr.away hk hS fun k hm => hσ k (mem_lids hi hm)⟩⟩
theorem RVR.away {w w' : World} {S S' : Nat → Prop} {σ σ' : Nat → Value} {n n' : Nat} (hk : ∀ b, S b → w'.heap[b]? = w.heap[b]?) (hS : ∀ b, S b → S' b) {x : RV} {v : Value} (h : RVR w S σ n x v)
    (hσ : ∀ i ∈ x.ids, i < n' ∧ σ' i = σ i) : RVR w' S' σ' n' x v := by
  cases h with
  | any v => exact .any v
  | lf h => exact .lf (h.away hk hS hσ)
  | agg h => exact .agg (h.away hk hS hσ)
theorem AVR.away {w w' : World} {S S' : Nat → Prop} {σ σ' : Nat → Value} {n n' : Nat} (hk : ∀ b, S b → w'.heap[b]? = w.heap[b]?) (hS : ∀ b, S b → S' b) {x : AV} {v : Value} (h : AVR w S σ n x v)
    (hσ : ∀ i ∈ x.ids, i < n' ∧ σ' i = σ i) : AVR w' S' σ' n' x v := by
  cases h with
  | one h => exact .one (h.away hk hS hσ)
  | tup hn h => exact .tup hn fun i r hr => let ⟨v, hv, hh⟩ := h i r hr; ⟨v, hv, hh.away hk hS fun k hm => hσ k (mem_rids hr hm)⟩

theorem ids_lt {w S σ n x v} (h : AVR w S σ n x v) : ∀ i ∈ x.ids, i < n := by
  have key : ∀ {x : LV} {v : Value}, LVR w S σ n x v → ∀ i ∈ x.ids, i < n := by
    intro x v hx i hi
    cases hx with
    | ptr h _ => simp [LV.ids] at hi; omega
    | rp h _ => simp [LV.ids] at hi; omega
    | sl h _ => simp [LV.ids] at hi; omega
    | clo h => exact (h i hi).1
    | _ => simp [LV.ids] at hi
  have keyl : ∀ {xs : List LV} {vs : Array Value}, LsR w S σ n xs vs → ∀ i ∈ lids xs, i < n := by
    intro xs vs hl
    have : ∀ l : List LV, (∀ (j : Nat) x, l[j]? = some x → ∀ i ∈ x.ids, i < n) → ∀ i ∈ lids l, i < n := by
      intro l
      induction l with
      | nil => intro _ i hi; cases hi
      | cons x r ih => intro hh i hi; exact (List.mem_append.1 hi).elim (fun h => hh 0 x rfl i h) (fun h => ih (fun j y hy => hh (j + 1) y (by simpa using hy)) i h)
    exact this xs fun j x hx => let ⟨v, _, h⟩ := hl.2 j x hx; key h
  have keyr : ∀ {x : RV} {v : Value}, RVR w S σ n x v → ∀ i ∈ x.ids, i < n := by
    intro x v hx
    cases hx with
    | any => intro i hi; cases hi
    | lf h => exact key h
    | agg h => exact keyl h
  cases h with
  | one h => exact keyr h
  | @tup rs vs hn h =>
    have : ∀ l : List RV, (∀ (j : Nat) x, l[j]? = some x → ∀ i ∈ x.ids, i < n) → ∀ i ∈ rids l, i < n := by
      intro l
      induction l with
      | nil => intro _ i hi; cases hi
      | cons x r ih => intro hh i hi; exact (List.mem_append.1 hi).elim (fun h => hh 0 x rfl i h) (fun h => ih (fun j y hy => hh (j + 1) y (by simpa using hy)) i h)
    exact this rs fun j x hx => let ⟨v, _, h⟩ := h j x hx; keyr h

/-- A function of values: what it is called with, what it gives; it writes nothing that was there. -/
def AFun (P : Program) (g : Nat) (args : List AV) (r : AV) : Prop :=
  Ent P g ∧ ∀ (w : World) (S : Nat → Prop), (∀ b, S b → b < w.heap.size) → ∀ vs : Array Value, vs.size = args.length → (∀ (i : Nat) (x : AV), args[i]? = some x → ∃ v, vs[i]? = some v ∧ AVR w S (fun _ => undef) 0 x v) →
    Calls P g vs w fun e w' => ∃ v, e = .returned v ∧ Below w.heap.size w w' ∧ AVR w' (fun b => S b ∨ (w.heap.size ≤ b ∧ b < w'.heap.size)) (fun _ => undef) 0 r v

theorem callR_of_fun {P : Program} {g : Nat} {args : List AV} {r : AV} (h : AFun P g args r) (hp : aids args = []) {s : AS} {R : AV → AS → Prop} (hR : R r s) : CallR P g args s R := by
  refine ⟨h.1, fun C S σ a w hs vs hn hv => ?_⟩
  refine (h.2 w S hs.lt vs hn (fun i x hi => ?_)).mono ?_
  · obtain ⟨v, h1, h2⟩ := hv i x hi
    exact ⟨v, h1, h2.away (fun _ _ => rfl) (fun _ h => h) fun k hm => by have := mem_aids hi hm; rw [hp] at this; cases this⟩
  · rintro e w' ⟨v, rfl, hb, hav⟩
    refine ⟨v, r, s, _, σ, hR, rfl, ?_, hs.grow hb⟩
    refine hav.away (fun _ _ => rfl) (fun _ h => h) fun k hm => ?_
    exact absurd (ids_lt hav k hm) (Nat.not_lt_zero _)

/-- A name that nothing bears yet. -/
structure Fresh (s : AS) (id : Nat) : Prop where
  hp : s.hp id = none
  fr : ∀ i, id ∉ (s.fr i).ids
  bx : ∀ j t cs, s.hp j = some (.box t cs) → id ∉ lids cs
  lt : id < s.nx
  ge : s.n0 ≤ id

def AS.setAt (s : AS) (id : Nat) (o : AObj) : AS := { s with hp := fun j => bif Nat.beq j id then some o else s.hp j }

theorem SR.newAt {C : Ctx} {s : AS} {S σ a w} (hr : SR C s S σ a w) {id : Nat} (hf : Fresh s id) {ob : AObj} {w' : World} (hv : Value) (hsz : w.heap.size < w'.heap.size) (hold : ∀ b, b < w.heap.size → w'.heap[b]? = w.heap[b]?) (hos : w'.os = w.os) (htp : w'.tape = w.tape) (hout : w'.output = w.output)
    (hb : ∀ b, blk hv = some b → w.heap.size ≤ b ∧ b < w'.heap.size) (ho : ∀ σ' : Nat → Value, σ' id = hv → (∀ i, i ≠ id → σ' i = σ i) → ObjR w' S σ' s.nx id ob) :
    ∃ σ', SR C (s.setAt id ob) S σ' a w' ∧ σ' id = hv ∧ ∀ i, i ≠ id → σ' i = σ i := by
  let σ' : Nat → Value := fun i => if i = id then hv else σ i
  have hσ : ∀ i, i ≠ id → σ' i = σ i := fun i hi => if_neg hi
  have hσn : σ' id = hv := if_pos rfl
  have hk : ∀ b, S b → w'.heap[b]? = w.heap[b]? := fun b hb => hold b (hr.lt b hb)
  have get : ∀ j q, (s.setAt id ob).hp j = some q → (j = id ∧ q = ob) ∨ (j ≠ id ∧ s.hp j = some q) := by
    intro j q hq
    simp only [AS.setAt] at hq
    by_cases e : j = id
    · subst e
      rw [Nat.beq_refl] at hq
      simp only [cond_true, Option.some.injEq] at hq
      exact .inl ⟨rfl, hq.symm⟩
    · rw [beq_ne e] at hq
      exact .inr ⟨e, hq⟩
  refine ⟨σ', ⟨hr.size, hr.defers, fun i => ?_, ⟨?_, ?_, ?_, ?_, ?_⟩, fun b hb => Nat.lt_trans (hr.lt b hb) hsz, hr.le, ?_, hr.nx, ?_, hr.up⟩, hσn, hσ⟩
  · exact (hr.fr i).away hk (fun _ h => h) fun k hm => ⟨ids_lt (hr.fr i) k hm, hσ k fun e => hf.fr i (e ▸ hm)⟩
  · intro j q hq
    rcases get j q hq with ⟨rfl, _⟩ | ⟨_, h1⟩
    · exact hf.lt
    · exact hr.hp.lt j q h1
  · intro j q hq
    rcases get j q hq with ⟨rfl, rfl⟩ | ⟨hj, h1⟩
    · exact ho σ' hσn hσ
    · have h2 := hr.hp.obj j q h1
      cases q with
      | box t cs =>
        obtain ⟨b, vs, h3, h4, h5⟩ := h2
        refine ⟨b, vs, (hσ j hj).trans h3, (hold b (Array.getElem?_eq_some_iff.1 h4).1).trans h4, h5.away hk (fun _ h => h) fun k hm => ⟨?_, hσ k fun e => hf.bx j t cs h1 (e ▸ hm)⟩⟩
        exact ids_lt (x := .agg cs) (.one (.agg h5)) k hm
      | row t sz rows =>
        obtain ⟨h0, xs, h3, h4, h5⟩ := h2
        refine ⟨h0, xs, ?_, h4, fun i k r p hi hj' => ?_⟩
        · rw [hσ j hj]
          refine ⟨h3.1, ?_⟩
          rcases h3.2 with h6 | ⟨g, cap, cur, hv', hg, hh, r⟩
          · exact .inl h6
          · exact .inr ⟨g, cap, cur, hv', hg, (hold g (Array.getElem?_eq_some_iff.1 hh).1).trans hh, r⟩
        · obtain ⟨v, hv', hp⟩ := h5 i k r p hi hj'
          exact ⟨v, hv', hp.mono hk (fun _ h => h)⟩
  · intro j q b hq hbk
    rcases get j q hq with ⟨rfl, rfl⟩ | ⟨hj, h1⟩
    · rw [hσn] at hbk
      exact fun hS => by have := hr.lt b hS; have := (hb b hbk).1; omega
    · rw [hσ j hj] at hbk
      exact hr.hp.notS j q b h1 hbk
  · intro j q b hq hbk
    rcases get j q hq with ⟨rfl, rfl⟩ | ⟨hj, h1⟩
    · rw [hσn] at hbk
      exact .inr (Nat.le_trans hr.keep.size (hb b hbk).1)
    · rw [hσ j hj] at hbk
      exact hr.hp.own j q b h1 hbk
  · intro j j' q q' b hq hq' hbk hbk'
    rcases get j q hq with ⟨rfl, rfl⟩ | ⟨hj, h1⟩
    · rcases get j' q' hq' with ⟨rfl, rfl⟩ | ⟨hj', h1'⟩
      · rfl
      · rw [hσn] at hbk
        rw [hσ j' hj'] at hbk'
        have := (hb b hbk).1
        have := blk_lt (hr.hp.obj j' q' h1') hbk'
        omega
    · rw [hσ j hj] at hbk
      rcases get j' q' hq' with ⟨rfl, rfl⟩ | ⟨hj', h1'⟩
      · rw [hσn] at hbk'
        have := (hb b hbk').1
        have := blk_lt (hr.hp.obj j q h1) hbk
        omega
      · rw [hσ j' hj'] at hbk'
        exact hr.hp.inj j j' q q' b h1 h1' hbk hbk'
  · exact ⟨hos.trans hr.keep.os, htp.trans hr.keep.tape, hout.trans hr.keep.output, Nat.le_trans hr.keep.size (Nat.le_of_lt hsz), fun k hlt hB => (hold k (Nat.lt_of_lt_of_le hlt hr.keep.size)).trans (hr.keep.block k hlt hB)⟩
  · intro j hj hc
    have : j ≠ id := fun e => by subst e; have := hf.ge; simp only [AS.setAt] at hj; omega
    rw [hσ j this]
    exact hr.hs j hj hc

end Go.Proofs.YtijjagkeaehhbaaGreat.Eng

/- The engine: one operation as a step that may be told apart from its neighbours: what it reads, what it writes. -/
set_option linter.unusedSimpArgs false
set_option linter.unusedVariables false
namespace Go.Proofs.YtijjagkeaehhbaaGreat.Eng
open Go.RowKit (Below)

/-- The object behind a handle. -/
def rdO (hp : Nat → Option AObj) : AV → Option AObj
  | .one (.lf (.ptr id _)) => hp id
  | .one (.lf (.rp id _ _ _)) => hp id
  | .one (.lf (.sl id)) => hp id
  | _ => none

def loadA (i : TI) (x : AV) (ob : Option AObj) (K : AV → Prop) : Prop :=
  match x, ob with
  | .one (.lf (.ptr _ off)), some (.box _ cs) => match ofCells i.agg cs off i.size with | some v => K v | none => False
  | .one (.lf (.rp _ sz idx off)), some (.row _ sz' rows) => ∃ r, rows[idx]? = some r ∧ sz = sz' ∧ (match ofCells i.agg (pvs r) off i.size with | some v => K v | none => False)
  | .one (.lf (.pv (.cp r off))), _ => match ofCells i.agg (pvs r) off i.size with | some v => K v | none => False
  | _, _ => False

def builtinS (T : Tab) (b : Builtin) (ts : List Nat) (args : List AV) (hp : Nat → Option AObj) (K : AV → Prop) : Prop :=
  match b, ts, args with
  | .len, t :: _, [x] => match T t with
    | some i => match x, i.str, i.el, rdO hp x with
      | .one (.lf (.pv (.str b))), true, none, _ => K (.i b.size)
      | .one (.lf (.pv .nils)), false, some _, _ => K (.i 0)
      | .one (.lf (.pv (.vs _ rows))), false, some _, _ => K (.i rows.length)
      | .one (.lf (.sl _)), false, some _, some (.row _ _ rows) => K (.i rows.length)
      | _, _, _, _ => False
    | none => False
  | .max, _, [.one (.lf (.pv (.int k a))), .one (.lf (.pv (.int k' b)))] => match decide (k = k') with | true => K (.pv (.int k (if a < b then b else a))) | false => False
  | .min, _, [.one (.lf (.pv (.int k a))), .one (.lf (.pv (.int k' b)))] => match decide (k = k') with | true => K (.pv (.int k (if b < a then b else a))) | false => False
  | _, _, _ => False

/-- One operation: what it gives and what it writes. nid: the name of what it makes. -/
def stepOp (P : Program) (T : Tab) (o : Oper) (ev : Operand → AV) (hp : Nat → Option AObj) (nid : Nat) (K : AV → Option (Nat × AObj) → Prop) : Prop :=
  match o.op with
  | .move x => K (ev x) none
  | .assign x => K (ev x) none
  | .pick c a b => match ev c with
    | .one (.lf (.pv (.bool t))) => (t = true → K (ev a) none) ∧ (t = false → K (ev b) none)
    | _ => False
  | .binOp op t x y _ => binA P op t x y (ev x) (ev y) fun v => K v none
  | .unOp op _ x => match op, ev x with
    | .not, .one (.lf (.pv (.bool b))) => K (.b !b) none
    | .neg, .one (.lf (.pv (.int k n))) => K (.pv (.int k (k.wrap (0 - n)))) none
    | _, _ => False
  | .nilCheck x => match ev x with
    | .one (.lf (.ptr i off)) => K (.lv (.ptr i off)) none
    | .one (.lf (.rp i z j off)) => K (.lv (.rp i z j off)) none
    | .one (.lf (.pv (.cp r off))) => K (.pv (.cp r off)) none
    | _ => ∃ r, PureOp P o ev r ∧ K r none
  | .extract x k => match ev x with
    | .tup rs => match rs[k]? with | some r => K (.one r) none | none => False
    | _ => False
  | .box t x => match T t, (ev x).cells with
    | some i, some cs => match Nat.beq cs.length i.size with
      | true => K (.lv (.ptr nid 0)) (some (nid, .box t cs))
      | false => False
    | _, _ => False
  | .alloc t => match T t with
    | some i => K (.lv (.ptr nid 0)) (some (nid, .box t (pvs i.zero)))
    | none => False
  | .load t p => match T t with
    | some i => loadA i (ev p) (rdO hp (ev p)) fun v => K v none
    | none => False
  | .store t p x => match T t, (ev x).cells with
    | some i, some xs => match Nat.beq xs.length i.size with
      | true => match ev p, rdO hp (ev p) with
        | .one (.lf (.ptr id off)), some (.box t' cs) => match Nat.ble (off + xs.length) cs.length with
          | true => K .any (some (id, .box t' (splice cs off xs)))
          | false => False
        | _, _ => False
      | false => False
    | _, _ => False
  | .fieldAddr t p f => match T t with
    | some i => match i.fo[f]? with
      | some fo => match ev p with
        | .one (.lf (.ptr id off)) => K (.lv (.ptr id (off + fo.1))) none
        | .one (.lf (.rp id sz idx off)) => K (.lv (.rp id sz idx (off + fo.1))) none
        | .one (.lf (.pv (.cp r off))) => K (.pv (.cp r (off + fo.1))) none
        | _ => False
      | none => False
    | none => False
  | .field t x f => match T t with
    | some i => match i.fo[f]?, ev x with
      | some fo, .one (.agg xs) => match ofCells fo.2.2 xs fo.1 fo.2.1 with | some v => K v none | none => False
      | _, _ => False
    | none => False
  | .indexAddr t x ix => match T t with
    | some i => match i.el with
      | some e => match T e, ev x, ev ix, rdO hp (ev x) with
        | some ie, .one (.lf (.pv (.vs sz rows))), .one (.lf (.pv (.int _ n))), _ => ∃ r, 0 ≤ n ∧ rows[n.toNat]? = some r ∧ sz = ie.size ∧ K (.pv (.cp r 0)) none
        | some ie, .one (.lf (.sl id)), .one (.lf (.pv (.int _ n))), some (.row _ sz rows) => (0 ≤ n ∧ n < rows.length ∧ sz = ie.size) ∧ K (.lv (.rp id sz n.toNat 0)) none
        | _, _, _, _ => False
      | none => False
    | none => False
  | .index t x ix => match T t with
    | some i => match i.str, ev x, ev ix with
      | true, .one (.lf (.pv (.str b))), .one (.lf (.pv (.int _ n))) => ∃ c : UInt8, 0 ≤ n ∧ b[n.toNat]? = some c ∧ K (.pv (.int .u8 c.toNat)) none
      | _, _, _ => False
    | none => False
  | .build t parts => match T t with
    | some i => match i.agg, fillA (fun k => i.fo[k]?.map fun fo => (fo.1, fo.2.1)) (pvs i.zero) (parts.toList.map fun p => (p.1, ev p.2)) with
      | true, some cs => K (.agg cs) none
      | _, _ => False
    | none => ∃ r, PureOp P o ev r ∧ K r none
  | .buildSlice t len parts => match T t with
    | some i => match i.el with
      | some e => match T e with
        | some ie => match Nat.ble (len * ie.size) 16777216, fillA (fun k => some (k * ie.size, ie.size)) (pvs (rep ie.zero len)) (parts.toList.map fun p => (p.1, ev p.2)) with
          | true, some cs => match pures cs with
            | some ps => ∃ own : Bool, match own with
              | true => K (.lv (.sl nid)) (some (nid, .row e ie.size (chunk ie.size len ps)))
              | false => K (.pv (.vs ie.size (chunk ie.size len ps))) none
            | none => False
          | _, _ => False
        | none => False
      | none => False
    | none => False
  | .call c => match c.callee with
    | .builtin b => builtinS T b c.argTypes.toList (c.args.toList.map ev) hp fun v => K v none
    | .value f => match ev f with
      | .one (.lf (.pv (.fn g))) => ∃ r, AFun P g (c.args.toList.map ev) r ∧ (aids (c.args.toList.map ev)).isEmpty = true ∧ K r none
      | _ => False
    | _ => False
  | .convert a b x => match T a, T b, ev x with
    | some _, some j, .one (.lf (.pv (.int _ n))) => match j.knd with | some k => K (.pv (.int k (k.wrap n))) none | none => False
    | some _, some j, .one (.lf (.pv (.str b))) => match j.str with | true => K (.pv (.str b)) none | false => False
    | _, _, _ => False
  | .makeFunc _ _ _ => False
  | .makeSlice _ _ _ => False
  | _ => ∃ r, PureOp P o ev r ∧ K r none

/-- Which objects it looks at. -/
def memIds (o : Op) (ev : Operand → AV) : List Nat :=
  match o with
  | .load _ p => (ev p).ids
  | .store _ p _ => (ev p).ids
  | .indexAddr _ x _ => (ev x).ids
  | .call c => match c.callee with | .builtin _ => aids (c.args.toList.map ev) | _ => []
  | _ => []

def hits : Option Nat → Nat → Bool
  | some d, i => Nat.beq i d
  | none, _ => false
def AS.eff (s : AS) (d : Option Nat) (v : AV) (u : Option (Nat × AObj)) : AS :=
  { s with fr := fun i => bif hits d i then v else s.fr i
           hp := fun j => match u with | some (id, o) => bif Nat.beq j id then some o else s.hp j | none => s.hp j }

section
variable {P : Program} {T : Tab} {o : Oper} {ev ev' : Operand → AV} {hp hp' : Nat → Option AObj} {nid : Nat} {K K' : AV → Option (Nat × AObj) → Prop}

theorem rdO_congr {x : AV} (h : ∀ j ∈ x.ids, hp j = hp' j) : rdO hp x = rdO hp' x := by
  match x with
  | .one (.lf (.ptr id _)) => exact h id (by simp [AV.ids, RV.ids, LV.ids])
  | .one (.lf (.rp id _ _ _)) => exact h id (by simp [AV.ids, RV.ids, LV.ids])
  | .one (.lf (.sl id)) => exact h id (by simp [AV.ids, RV.ids, LV.ids])
  | .one (.lf (.pv _)) | .one (.lf .any) | .one (.lf (.clo _ _)) | .one (.agg _) | .tup _ => rfl

theorem map_ev {l : List Operand} (h : ∀ x ∈ l, ev x = ev' x) : l.map ev = l.map ev' := List.map_congr_left h

theorem builtinS_congr {b : Builtin} {ts : List Nat} {args : List AV} (h : ∀ j ∈ aids args, hp j = hp' j) {K : AV → Prop} : builtinS T b ts args hp K = builtinS T b ts args hp' K := by
  have key : ∀ x, args = [x] → rdO hp x = rdO hp' x := fun x hx => rdO_congr fun j hj => h j (by subst hx; simp [aids, hj])
  unfold builtinS
  split
  · rename_i x; rw [key x rfl]
  all_goals rfl

theorem pureOp_congr {r : AV} (he : ∀ x ∈ o.op.operands, ev x = ev' x) : PureOp P o ev r = PureOp P o ev' r := by
  apply propext
  constructor
  · intro h; exact ⟨fun w S σ n ρ hρ => h.run w S σ n ρ fun x hx => by rw [he x hx]; exact hρ x hx⟩
  · intro h; exact ⟨fun w S σ n ρ hρ => h.run w S σ n ρ fun x hx => by rw [← he x hx]; exact hρ x hx⟩

theorem stepOp_congr (he : ∀ x ∈ o.op.operands, ev x = ev' x) (hh : ∀ j ∈ memIds o.op ev, hp j = hp' j) : stepOp P T o ev hp nid K = stepOp P T o ev' hp' nid K := by
  obtain ⟨dst, op, type, pos, after, guard⟩ := o
  have pairs : ∀ ps : Array (Nat × Operand), (∀ x ∈ ps.map (·.2), ev x = ev' x) → (ps.toList.map fun p => (p.1, ev p.2)) = (ps.toList.map fun p => (p.1, ev' p.2)) := fun ps hp =>
    List.map_congr_left fun p hm => by rw [hp p.2 (Array.mem_map.2 ⟨p, Array.mem_toList_iff.1 hm, rfl⟩)]
  have hpure : ∀ r, PureOp P ⟨dst, op, type, pos, after, guard⟩ ev r = PureOp P ⟨dst, op, type, pos, after, guard⟩ ev' r := fun r => pureOp_congr he
  cases op <;> simp only [Op.operands] at he <;> simp only [memIds] at hh <;> simp only [stepOp, hpure]
  case build t ps => rw [pairs ps fun x hx => he x (by simpa using hx)]
  case buildSlice t n ps => rw [pairs ps fun x hx => he x (by simpa using hx)]
  case call c =>
    have ha : c.args.toList.map ev = c.args.toList.map ev' := map_ev fun x hx => he x (by simp [Call.operands, Array.mem_toList_iff.1 hx])
    cases hc : c.callee with
    | value f => have hf : ev f = ev' f := he f (by simp [Call.operands, hc]); simp only [hf, ha]
    | invoke r m => rfl
    | builtin b => simp only [hc, ha] at hh; simp only [ha, builtinS_congr hh]
  case load t p => rw [rdO_congr hh, he p (by simp)]
  case store t p x => rw [rdO_congr hh, he p (by simp), he x (by simp)]
  case indexAddr t x ix => rw [rdO_congr hh, he x (by simp), he ix (by simp)]
  all_goals (first | rfl | (simp_all; done))

theorem binA_ex {op : BinOp} {ty : Nat} {X Y : Operand} {x y : AV} {K : AV → Prop} (h : binA P op ty X Y x y K) : ∃ v, K v ∧ binA P op ty X Y x y fun v' => v' = v := by
  unfold binA at *
  split at h
  · split at h
    · split at h
      · exact ⟨_, h.2, h.1, rfl⟩
      · exact ⟨_, h.2, h.1, rfl⟩
      · split at h
        · exact ⟨_, h, by simp_all⟩
        · split at h
          · exact ⟨_, h, by simp_all⟩
          · exact h.elim
    · exact h.elim
  · split at h
    · exact ⟨_, h.2, h.1, rfl⟩
    · split at h
      · exact ⟨_, h, by simp_all⟩
      · exact h.elim
  · obtain ⟨r, h1, h2⟩ := h
    exact ⟨_, h2, r, h1, rfl⟩

theorem builtinS_ex {b : Builtin} {ts : List Nat} {args : List AV} {K : AV → Prop} (h : builtinS T b ts args hp K) : ∃ v, K v ∧ builtinS T b ts args hp fun v' => v' = v := by
  unfold builtinS at *
  split at h
  · split at h
    · split at h <;> first | exact h.elim | exact ⟨_, h, by simp_all⟩
    · exact h.elim
  · split at h <;> first | exact h.elim | exact ⟨_, h, by simp_all⟩
  · split at h <;> first | exact h.elim | exact ⟨_, h, by simp_all⟩
  · exact h.elim

theorem loadA_ex {i : TI} {x : AV} {ob : Option AObj} {K : AV → Prop} (h : loadA i x ob K) : ∃ v, K v ∧ loadA i x ob fun v' => v' = v := by
  unfold loadA at *
  split at h
  · split at h <;> first | exact h.elim | exact ⟨_, h, by simp_all⟩
  · obtain ⟨r, h1, h2, h⟩ := h
    split at h
    · exact ⟨_, h, r, h1, h2, by simp_all⟩
    · exact h.elim
  · split at h <;> first | exact h.elim | exact ⟨_, h, by simp_all⟩
  · exact h.elim

theorem stepOp_ex (h : stepOp P T o ev hp nid K) : ∃ v u, K v u ∧ stepOp P T o ev hp nid fun v' u' => v' = v ∧ u' = u := by
  obtain ⟨dst, op, type, pos, after, guard⟩ := o
  cases op <;> simp only [stepOp] at h ⊢
  case move x => exact ⟨_, _, h, rfl, rfl⟩
  case assign x => exact ⟨_, _, h, rfl, rfl⟩
  case pick c x y =>
    split at h
    · rename_i t ht
      cases t with
      | true => exact ⟨_, _, h.1 rfl, fun _ => ⟨rfl, rfl⟩, fun e => by cases e⟩
      | false => exact ⟨_, _, h.2 rfl, (fun e => by cases e), fun _ => ⟨rfl, rfl⟩⟩
    · exact h.elim
  case binOp op t x y yt =>
    obtain ⟨v, h1, h2⟩ := binA_ex h
    exact ⟨v, none, h1, by simpa using h2⟩
  case call c =>
    split at h
    · obtain ⟨v, h1, h2⟩ := builtinS_ex h
      exact ⟨v, none, h1, by simpa using h2⟩
    · split at h
      · obtain ⟨r, h1, h2, h3⟩ := h
        exact ⟨_, _, h3, r, h1, h2, rfl, rfl⟩
      · exact h.elim
    · exact h.elim
  case load t p =>
    split at h
    · obtain ⟨v, h1, h2⟩ := loadA_ex h
      exact ⟨v, none, h1, by simpa using h2⟩
    · exact h.elim
  case indexAddr t x ix =>
    split at h
    · split at h
      · split at h
        · obtain ⟨r, h1, h2, h3, h⟩ := h
          exact ⟨_, _, h, r, h1, h2, h3, rfl, rfl⟩
        · exact ⟨_, _, h.2, h.1, rfl, rfl⟩
        · exact h.elim
      · exact h.elim
    · exact h.elim
  case index t x ix =>
    split at h
    · split at h
      · obtain ⟨c, h1, h2, h⟩ := h
        exact ⟨_, _, h, c, h1, h2, rfl, rfl⟩
      · exact h.elim
    · exact h.elim
  case buildSlice t len parts =>
    split at h
    · split at h
      · split at h
        · split at h
          · split at h
            · obtain ⟨own, h⟩ := h
              cases own with
              | true => exact ⟨_, _, h, true, rfl, rfl⟩
              | false => exact ⟨_, _, h, false, rfl, rfl⟩
            · exact h.elim
          · exact h.elim
        · exact h.elim
      · exact h.elim
    · exact h.elim
  all_goals (repeat (first | exact h.elim | exact ⟨_, _, h, rfl, rfl⟩ | (obtain ⟨r, h1, h2⟩ := h; exact ⟨_, _, h2, r, h1, rfl, rfl⟩) | split at h))
  
theorem binA_mono {op : BinOp} {ty : Nat} {X Y : Operand} {x y : AV} {K K' : AV → Prop} (hm : ∀ v, K v → K' v) (h : binA P op ty X Y x y K) : binA P op ty X Y x y K' := by
  obtain ⟨v, h1, h2⟩ := binA_ex h
  unfold binA at *
  split at h2
  · split at h2
    · split at h2
      · exact ⟨h2.1, h2.2 ▸ hm _ h1⟩
      · exact ⟨h2.1, h2.2 ▸ hm _ h1⟩
      · split at h2
        · subst h2; exact hm _ h1
        · split at h2
          · subst h2; exact hm _ h1
          · exact h2.elim
    · exact h2.elim
  · split at h2
    · exact ⟨h2.1, h2.2 ▸ hm _ h1⟩
    · split at h2
      · subst h2; exact hm _ h1
      · exact h2.elim
  · obtain ⟨r, h3, h4⟩ := h2
    exact ⟨r, h3, h4 ▸ hm _ h1⟩

end
end Go.Proofs.YtijjagkeaehhbaaGreat.Eng
