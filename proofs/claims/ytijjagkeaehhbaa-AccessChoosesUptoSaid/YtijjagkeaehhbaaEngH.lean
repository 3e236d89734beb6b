/- The engine's operations are sound: rows, indices, literals, closures. -/
import Derived.Test.YtijjagkeaehhbaaEngG
set_option linter.unusedSimpArgs false
set_option linter.unusedVariables false
namespace Go.Proofs.Ytijjagkeaehhbaa.Eng
open Go.RowKit (Below)

section
variable {P : Program} {T : Tab} {C : Ctx} {o : Oper} {s : AS} {K : AS → Prop} {S : Nat → Prop} {σ : Nat → Value} {a : Act} {w : World}

theorem flat_lt {i j n sz : Nat} (hi : i < n) (hj : j < sz) : i * sz + j < n * sz := by
  have : i * sz + sz ≤ n * sz := by rw [← Nat.succ_mul]; exact Nat.mul_le_mul_right _ hi
  omega
theorem flat_ne {i j i' j' sz : Nat} (hj : j < sz) (hj' : j' < sz) (h : i * sz + j = i' * sz + j') : i = i' ∧ j = j' := by
  have hs : 0 < sz := by omega
  have h1 : (i * sz + j) / sz = i := by rw [Nat.mul_comm, Nat.mul_add_div hs, Nat.div_eq_of_lt hj, Nat.add_zero]
  have h2 : (i' * sz + j') / sz = i' := by rw [Nat.mul_comm, Nat.mul_add_div hs, Nat.div_eq_of_lt hj', Nat.add_zero]
  have : i = i' := by rw [← h1, ← h2, h]
  subst this
  exact ⟨rfl, by omega⟩

theorem splicePV_get (r ps : List PV) (off k : Nat) (hfit : off + ps.length ≤ r.length) : (splicePV r off ps)[k]? = if off ≤ k ∧ k < off + ps.length then ps[k - off]? else r[k]? := by
  unfold splicePV
  by_cases h1 : k < off
  · rw [List.getElem?_append_left (by simp; omega), List.getElem?_take_of_lt h1, if_neg (by omega)]
  · by_cases h2 : k < off + ps.length
    · rw [List.getElem?_append_right (by simp; omega), List.getElem?_append_left (by simp; omega), if_pos (by omega)]
      congr 1
      simp; omega
    · rw [List.getElem?_append_right (by simp; omega), List.getElem?_append_right (by simp; omega), List.getElem?_drop, if_neg (by omega)]
      congr 1
      simp; omega
theorem splicePV_len (r ps : List PV) (off : Nat) (hfit : off + ps.length ≤ r.length) : (splicePV r off ps).length = r.length := by unfold splicePV; simp; omega

theorem fine_store_rp {t : Nat} {p x : Operand} (ho : o.op = .store t p x) (hs : SR C s S σ a w) {i : TI} {j d z} (ht : TypeOk P t i j d z) {ps : List PV} (hxs : (s.ev x).cells = some (pvs ps)) (hsz : (pvs ps).length = i.size)
    {id sz idx off t' : Nat} {rows : List (List PV)} (hp : s.ev p = .one (.lf (.rp id sz idx off))) (hid : s.hp id = some (.row t' sz rows)) {r : List PV} (hr : rows[idx]? = some r) (hfit : off + ps.length ≤ r.length)
    (h : (s.setO id (.row t' sz (rows.set idx (splicePV r off ps)))).put o.dst .any K) : Fine P C o a w K := by
  obtain ⟨_, b, m, c, hb, he⟩ := (hp ▸ hs.ev p).rp_inv
  obtain ⟨hrl, xs, hown, h1, hx⟩ := row_open hs hid
  have hl := (hs.ev x).cells hxs
  have hlen : (a.eval x).cells.size = ps.length := by rw [hl.1, (pvs_spec ps).1]
  rw [(pvs_spec ps).1] at hsz
  have hidx : idx < rows.length := (List.getElem?_eq_some_iff.1 hr).1
  have hrsz : r.length = sz := hrl r (List.mem_of_getElem? hr)
  obtain ⟨hxl, hown2⟩ := hown
  rcases hown2 with ⟨h4, _⟩ | ⟨g, cap, cur, hv, hg, hh, hnc, hcm, hcs, htake⟩
  · rw [hb] at h4; cases h4
  · rw [hb] at hv
    obtain ⟨rfl, rfl, rfl⟩ : b = g ∧ m = rows.length ∧ c = cap := by simpa using hv
    have hin : idx * sz + (off + ps.length) ≤ rows.length * sz := by
      have : idx * sz + sz ≤ rows.length * sz := by rw [← Nat.succ_mul]; exact Nat.mul_le_mul_right _ hidx
      omega
    have hcap : rows.length * sz ≤ c * sz := Nat.mul_le_mul_right _ hnc
    refine fine_skip (run_store_of ho ht he hh (by omega) hl.ones (by omega)) (hs.write hid (b := b) (by rw [hb]; rfl) (fun k hk => setRow_other w b k _ hk) (by simp) rfl rfl rfl ?_) h
    have hk : ∀ k, S k → (w.setRow b (cur.toList.take (idx * sz + off) ++ (a.eval x).cells.toList ++ cur.toList.drop (idx * sz + off + (a.eval x).cells.size)).toArray).heap[k]? = w.heap[k]? := fun k hS =>
      setRow_other w b k _ (fun e => hs.hp.notS id _ b hid (by rw [hb]; rfl) (e ▸ hS))
    have hnew : ∀ q, (cur.toList.take (idx * sz + off) ++ (a.eval x).cells.toList ++ cur.toList.drop (idx * sz + off + (a.eval x).cells.size))[q]? =
        if idx * sz + off ≤ q ∧ q < idx * sz + off + ps.length then (a.eval x).cells.toList[q - (idx * sz + off)]? else cur.toList[q]? := by
      intro q
      have hcl : cur.toList.length = c * sz := by simpa using hcs
      rw [List.append_assoc]
      by_cases h1 : q < idx * sz + off
      · rw [List.getElem?_append_left (by simp; omega), List.getElem?_take_of_lt h1, if_neg (by omega)]
      · by_cases h2 : q < idx * sz + off + ps.length
        · rw [List.getElem?_append_right (by simp; omega), List.getElem?_append_left (by simp; omega), if_pos (by omega)]
          congr 1
          simp; omega
        · rw [List.getElem?_append_right (by simp; omega), List.getElem?_append_right (by simp; omega), List.getElem?_drop, if_neg (by omega)]
          congr 1
          simp; omega
    have hcl : cur.toList.length = c * sz := by simpa using hcs
    refine ⟨fun q hq => ?_, (cur.toList.take (idx * sz + off) ++ (a.eval x).cells.toList ++ cur.toList.drop (idx * sz + off + (a.eval x).cells.size)).take (rows.length * sz), ⟨?_, .inr ⟨b, c, _, ?_, Nat.zero_le _, setRow_heap w b cur _ t' (0, 0) hh, ?_, hcm, ?_, ?_⟩⟩, ?_, ?_⟩
    · rcases List.mem_or_eq_of_mem_set hq with h6 | h6
      · exact hrl q h6
      · rw [h6, splicePV_len r ps off hfit, hrsz]
    · simp; omega
    · rw [hb]; simp
    · simpa using hnc
    · simp; omega
    · simp
    · intro v hv
      obtain ⟨q, hq, rfl⟩ := List.getElem_of_mem hv
      have hq2 := hnew q
      rw [List.getElem_take]
      rw [List.length_take] at hq
      have hq3 : q < (cur.toList.take (idx * sz + off) ++ (a.eval x).cells.toList ++ cur.toList.drop (idx * sz + off + (a.eval x).cells.size)).length := by omega
      rw [List.getElem?_eq_getElem hq3] at hq2
      split at hq2
      · exact hl.ones _ (List.mem_of_getElem? hq2.symm)
      · refine h1 _ (List.mem_of_getElem? (i := q) ?_)
        rw [← htake, List.getElem?_take_of_lt (by omega)]
        exact hq2.symm
    · intro i' j' r' p hi' hj'
      rw [List.getElem?_set] at hi'
      have hset : ∀ q, i' * sz + j' < rows.length * sz → (cur.toList.take (idx * sz + off) ++ (a.eval x).cells.toList ++ cur.toList.drop (idx * sz + off + (a.eval x).cells.size))[i' * sz + j']? = some q →
          ((cur.toList.take (idx * sz + off) ++ (a.eval x).cells.toList ++ cur.toList.drop (idx * sz + off + (a.eval x).cells.size)).take (rows.length * sz))[i' * sz + j']? = some q := fun q hlt hq => by
        rw [List.getElem?_take_of_lt hlt]; exact hq
      split at hi'
      · rename_i e
        subst e
        simp only [hidx, if_true, Option.some.injEq] at hi'
        subst hi'
        have hj'l : j' < sz := by have := (List.getElem?_eq_some_iff.1 hj').1; rw [splicePV_len r ps off hfit] at this; omega
        rw [splicePV_get r ps off j' hfit] at hj'
        split at hj'
        · rename_i hr2
          obtain ⟨v, h6, h7⟩ := hl.2 (j' - off) _ ((pvs_spec ps).2.2 _ p hj')
          refine ⟨v, hset v (flat_lt hidx hj'l) ?_, ?_⟩
          · rw [hnew, if_pos (by omega)]
            have e2 : idx * sz + j' - (idx * sz + off) = j' - off := by omega
            rw [e2]
            simpa using h6
          · cases h7 with | pv h7 => exact h7.mono hk (fun _ h => h)
        · rename_i hr2
          obtain ⟨v, h6, h7⟩ := hx idx j' r p hr hj'
          refine ⟨v, hset v (flat_lt hidx hj'l) ?_, h7.mono hk (fun _ h => h)⟩
          rw [hnew, if_neg (by omega)]
          rw [← htake, List.getElem?_take_of_lt (flat_lt hidx hj'l)] at h6
          exact h6
      · rename_i hne
        have hi'l : i' < rows.length := (List.getElem?_eq_some_iff.1 hi').1
        have hj'l : j' < sz := by have := (List.getElem?_eq_some_iff.1 hj').1; have := hrl r' (List.mem_of_getElem? hi'); omega
        obtain ⟨v, h6, h7⟩ := hx i' j' r' p hi' hj'
        refine ⟨v, hset v (flat_lt hi'l hj'l) ?_, h7.mono hk (fun _ h => h)⟩
        rw [hnew, if_neg ?_]
        · rw [← htake, List.getElem?_take_of_lt (flat_lt hi'l hj'l)] at h6
          exact h6
        · intro hh2
          have e3 := flat_ne (i := i') (j := j') (i' := idx) (j' := i' * sz + j' - idx * sz) hj'l (by omega) (by omega)
          exact hne e3.1.symm

theorem run_indexAt {t e : Nat} {i ie : TI} {j d z j' d' z'} (ht : TypeOk P t i j d z) (hel : i.el = some e) (hte : TypeOk P e ie j' d' z') {k : IntKind} {n : Int} {b off len cap : Nat} (h0 : 0 ≤ n) (h1 : n < len) (w : World) :
    (Instr.indexAt t (.slice (some ⟨b, off, none⟩) len cap) (.int k n)).run P w = .ok (.pointer (some ⟨b, off + n.toNat * ie.size, none⟩)) w := by
  have hd := ht.el e hel
  subst hd
  simp [Instr.indexAt, asIntOf, ht.run_und, h0, h1, hte.run_size, add_lit]

theorem fine_index_vs {t e : Nat} {x ix : Operand} (ho : o.op = .indexAddr t x ix) (hs : SR C s S σ a w) {i ie : TI} {j d z j' d' z'} (ht : TypeOk P t i j d z) (hel : i.el = some e) (hte : TypeOk P e ie j' d' z')
    {sz : Nat} {rows : List (List PV)} {k : IntKind} {n : Int} (hx : s.ev x = .one (.lf (.pv (.vs sz rows)))) (hix : s.ev ix = .one (.lf (.pv (.int k n)))) {r : List PV} (h0 : 0 ≤ n) (hr : rows[n.toNat]? = some r) (hsz : sz = ie.size)
    (h : s.put o.dst (.pv (.cp r 0)) K) : Fine P C o a w K := by
  have hi : a.eval ix = .int k n := (hix ▸ hs.ev ix).int_inv
  have hv := (hx ▸ hs.ev x).pv_inv
  have hlt : n.toNat < rows.length := (List.getElem?_eq_some_iff.1 hr).1
  generalize hev : a.eval x = v at hv
  cases hv with
  | vs _ _ A cap f hc hm hN hl hA h1 hp =>
    obtain ⟨b, q, rfl, hS, hcell⟩ := hA (by intro e; rw [e] at hlt; simp at hlt)
    have hrl : r.length = sz := hl r (List.mem_of_getElem? hr)
    refine fine_of (cv := .pointer (some ⟨b, q + n.toNat * sz, none⟩)) ?_ hs (.one (.lf (.pv (.cp r 0 b (q + n.toNat * sz) (fun j => f n.toNat j) hS ?_ ?_ ?_)))) h
    · simp only [execOp, ho, hev, hi, hsz]
      exact run_v (run_indexAt ht hel hte h0 (by omega) w)
    · intro j hj
      have := hcell n.toNat j hlt (by omega)
      rwa [← Nat.add_assoc] at this
    · exact fun j hj => h1 n.toNat j hlt (by omega)
    · exact fun j p hj => hp n.toNat j r p hr hj

theorem fine_index_sl {t e : Nat} {x ix : Operand} (ho : o.op = .indexAddr t x ix) (hs : SR C s S σ a w) {i ie : TI} {j d z j' d' z'} (ht : TypeOk P t i j d z) (hel : i.el = some e) (hte : TypeOk P e ie j' d' z')
    {id t' sz : Nat} {rows : List (List PV)} {k : IntKind} {n : Int} (hx : s.ev x = .one (.lf (.sl id))) (hid : s.hp id = some (.row t' sz rows)) (hix : s.ev ix = .one (.lf (.pv (.int k n)))) (h0 : 0 ≤ n) (h1 : n < rows.length) (hsz : sz = ie.size)
    (h : s.put o.dst (.lv (.rp id sz n.toNat 0)) K) : Fine P C o a w K := by
  have hi : a.eval ix = .int k n := (hix ▸ hs.ev ix).int_inv
  obtain ⟨hn, hv⟩ := (hx ▸ hs.ev x).sl_inv
  obtain ⟨_, xs, hown, _, _⟩ := row_open hs hid
  rcases hown.2 with ⟨_, h5⟩ | ⟨g, cap, cur, hsl, _⟩
  · omega
  · refine fine_of (cv := .pointer (some ⟨g, n.toNat * sz + 0, none⟩)) ?_ hs (.one (.lf (.rp hn hsl))) h
    simp only [execOp, ho, hv, hi, hsl]
    have := run_indexAt (k := k) (b := g) (off := 0) (len := rows.length) (cap := cap) ht hel hte h0 h1 w
    rw [Nat.zero_add, ← hsz] at this
    exact run_v this

theorem fine_index_str {t : Nat} {x ix : Operand} (ho : o.op = .index t x ix) (hs : SR C s S σ a w) {i : TI} {j d z} (ht : TypeOk P t i j d z) (hstr : i.str = true)
    {b : ByteArray} {k : IntKind} {n : Int} (hx : s.ev x = .one (.lf (.pv (.str b)))) (hix : s.ev ix = .one (.lf (.pv (.int k n)))) {c : UInt8} (h0 : 0 ≤ n) (hc : b[n.toNat]? = some c)
    (h : s.put o.dst (.pv (.int .u8 c.toNat)) K) : Fine P C o a w K := by
  have hi : a.eval ix = .int k n := (hix ▸ hs.ev ix).int_inv
  have hv : a.eval x = .string b := (hx ▸ hs.ev x).str_inv
  have hd := ht.str hstr
  subst hd
  refine fine_of (cv := .int .u8 c.toNat) ?_ hs (.int _ _) h
  simp only [execOp, ho, hv, hi]
  exact run_v (by simp [Instr.index, asIntOf, ht.run_und, h0, hc])

theorem ids?_spec {w S σ n} : ∀ {l : List AV} {ids : List Nat} {vs : List Value}, ids? l = some ids → vs.length = l.length → (∀ (i : Nat) x, l[i]? = some x → ∃ v, vs[i]? = some v ∧ AVR w S σ n x v) → (∀ id b, σ id = .pointer (some ⟨b, 0, none⟩) → True) → vs = ids.map σ ∧ ∀ i ∈ ids, i < n ∧ ∃ b, σ i = .pointer (some ⟨b, 0, none⟩)
  | [], ids, vs, h, hl, _, _ => by
    simp only [ids?, Option.some.injEq] at h
    subst h
    exact ⟨List.eq_nil_of_length_eq_zero (by simpa using hl), fun i hi => by simp at hi⟩
  | x :: r, ids, vs, h, hl, hv, hσ => by
    unfold ids? at h
    split at h
    · rename_i heq; cases heq
    · rename_i id r' heq
      injection heq with h1 h2
      subst h1 h2
      split at h
      · rename_i q hq
        cases h
        match vs, hl with
        | v :: vs, hl =>
          obtain ⟨v0, h3, h4⟩ := hv 0 _ rfl
          simp only [List.getElem?_cons_zero, Option.some.injEq] at h3
          subst h3
          obtain ⟨hn, b, hb, rfl⟩ := h4.ptr_inv
          obtain ⟨h5, h6⟩ := ids?_spec (vs := vs) hq (by simpa using hl) (fun i x hi => by simpa using hv (i + 1) x (by simpa using hi)) hσ
          refine ⟨by rw [h5]; simp [hb], fun i hi => ?_⟩
          rcases List.mem_cons.1 hi with rfl | hi
          · exact ⟨hn, b, hb⟩
          · exact h6 i hi
      · cases h
    · cases h

theorem map_rel (hs : SR C s S σ a w) (l : List Operand) : (l.map a.eval).length = (l.map s.ev).length ∧ ∀ (i : Nat) x, (l.map s.ev)[i]? = some x → ∃ v, (l.map a.eval)[i]? = some v ∧ AVR w S σ s.nx x v := by
  refine ⟨by simp, fun i x hi => ?_⟩
  rw [List.getElem?_map] at hi
  cases hq : l[i]? with
  | none => simp [hq] at hi
  | some q =>
    simp only [hq, Option.map_some, Option.some.injEq] at hi
    subst hi
    exact ⟨a.eval q, by simp [hq], hs.ev q⟩

theorem fine_makeFunc {g : Nat} {first caps : Array Operand} (ho : o.op = .makeFunc (.func g) first caps) (hs : SR C s S σ a w) (hf : first.toList = []) {ids : List Nat} (hc : ids? (caps.toList.map s.ev) = some ids)
    (h : s.put o.dst (.lv (.clo g ids)) K) : Fine P C o a w K := by
  obtain ⟨h1, h2⟩ := map_rel hs caps.toList
  obtain ⟨h3, h4⟩ := ids?_spec hc h1 h2 (fun _ _ _ => trivial)
  have hf' : first = #[] := by simpa using hf
  refine fine_of (cv := .func (.func g) #[] (ids.map σ).toArray) ?_ hs (.one (.lf (.clo h4))) h
  simp only [execOp, ho, hf']
  have : (caps.map a.eval) = (ids.map σ).toArray := by
    rw [← h3, ← Array.toList_map, Array.toArray_toList]
  exact run_v (by simp [Instr.makeFunc, this])

end
end Go.Proofs.Ytijjagkeaehhbaa.Eng
