/- Readings: what the cells of a handed datum say, as pure values. Each statement bears its conditions. -/
import Derived.Test.YtijjagkeaehhbaaEngW
import Derived.ChangeArms
import Derived.ChangeSlices
import Derived.ChangeOld
set_option linter.unusedSimpArgs false
set_option linter.unusedVariables false
namespace Go.Proofs.Ytijjagkeaehhbaa.Eng
open Go.RowKit (Below)
open Go.ChangeShapes Go.WideShapes

/-- The kinds of a type's cells. -/
inductive CK where
  | int (k : IntKind)
  | bool
  | str
  | sl (e sz : Nat)
def flatFs (P : Program) (g : Nat → Option (List CK)) : List Field → Nat → Option (List CK)
  | [], _ => some []
  | f :: r, o => bif Nat.beq f.offset o then
      match g f.type, flatFs P g r (o + P.cellsOf f.type) with
      | some a, some b => bif Nat.beq a.length (P.cellsOf f.type) then some (a ++ b) else none
      | _, _ => none
    else none
/-- A type's cells; L: the types that slices may have for elements. -/
def flatK (P : Program) (L : List Nat) : Nat → Nat → Option (List CK)
  | 0, _ => none
  | n + 1, t => match P.underlying t with
    | some (.int k) => some [.int k]
    | some .bool => some [.bool]
    | some .string => some [.str]
    | some (.slice e) => bif memb e L && Nat.ble 1 (P.cellsOf e) then some [.sl e (P.cellsOf e)] else none
    | some (.struct fs) => match flatFs P (flatK P L n) fs.toList 0 with
      | some ks => bif Nat.beq ks.length (P.cellsOf t) then some ks else none
      | none => none
    | _ => none
def allFlat (P : Program) (L : List Nat) (N : Nat) : List Nat → Bool
  | [] => true
  | e :: r => (flatK P L N e).isSome && allFlat P L N r

/-- Cells that are as their kinds say. -/
inductive Shp (P : Program) (L : List Nat) (N : Nat) : List CK → List PV → Prop where
  | nil : Shp P L N [] []
  | int {k n ks ps} (hw : (Lit.int k n).wf = true) (r : Shp P L N ks ps) : Shp P L N (.int k :: ks) (.int k n :: ps)
  | bool {b ks ps} (r : Shp P L N ks ps) : Shp P L N (.bool :: ks) (.bool b :: ps)
  | str {s ks ps} (hs : s.size ≤ maxLen) (r : Shp P L N ks ps) : Shp P L N (.str :: ks) (.str s :: ps)
  | sl {e sz ke rows ks ps} (hk : flatK P L N e = some ke) (hl : rows.length ≤ maxLen) (hn : ∀ r ∈ rows, r.length = sz) (h : ∀ r ∈ rows, Shp P L N ke r) (r : Shp P L N ks ps) : Shp P L N (.sl e sz :: ks) (.vs sz rows :: ps)
theorem Shp.append {P : Program} {L : List Nat} {N : Nat} {a b : List CK} {p q : List PV} (h : Shp P L N a p) (h' : Shp P L N b q) : Shp P L N (a ++ b) (p ++ q) := by
  induction h with
  | nil => exact h'
  | int hw r ih => exact .int hw ih
  | bool r ih => exact .bool ih
  | str hs r ih => exact .str hs ih
  | sl hk hl hn h r _ ih => exact .sl hk hl hn h ih
theorem Shp.length {P : Program} {L : List Nat} {N : Nat} {a : List CK} {p : List PV} (h : Shp P L N a p) : p.length = a.length := by
  induction h with
  | nil => rfl
  | int hw r ih => simp [ih]
  | bool r ih => simp [ih]
  | str hs r ih => simp [ih]
  | sl hk hl hn h r _ ih => simp [ih]

theorem allFlat_spec {P : Program} {L : List Nat} {N : Nat} : ∀ {M : List Nat}, allFlat P L N M = true → ∀ e ∈ M, ∃ ke, flatK P L N e = some ke
  | [], _, e, he => by cases he
  | x :: r, h, e, he => by
    simp only [allFlat, Bool.and_eq_true] at h
    rcases List.mem_cons.1 he with rfl | he
    · exact Option.isSome_iff_exists.1 h.1
    · exact allFlat_spec h.2 e he

mutual
/-- How much a pure value holds. -/
def bulkP : PV → Nat
  | .str s => s.size + 1
  | .vs _ rows => bulkRs rows + 1
  | _ => 1
def bulkPs : List PV → Nat
  | [] => 0
  | p :: r => bulkP p + bulkPs r
def bulkRs : List (List PV) → Nat
  | [] => 0
  | r :: l => bulkPs r + bulkRs l
end
theorem bulkPs_append : ∀ a b : List PV, bulkPs (a ++ b) = bulkPs a + bulkPs b
  | [], b => by simp [bulkPs]
  | p :: r, b => by rw [List.cons_append, bulkPs, bulkPs, bulkPs_append r b, Nat.add_assoc]
/-- A measure of what is read. -/
structure Mu {H : Type} (μ : DataW H → Nat) : Prop where
  lit : ∀ l, 1 ≤ μ (.lit l)
  str : ∀ l : List UInt8, l.length + 1 ≤ μ (.lit (.string l))
  nil : 1 ≤ μ .nil
  slice : ∀ e s, (e.map μ).sum + 1 ≤ μ (.slice e s)
  agg : ∀ l, (l.map μ).sum ≤ μ (.agg l)
theorem bulk_rows {β : Type} (f : β → Nat) (g : Nat → List PV) : ∀ (l : List β) (k : Nat), (∀ (i : Nat) y, l[i]? = some y → bulkPs (g (k + i)) ≤ f y) → bulkRs ((List.range' k l.length).map g) ≤ (l.map f).sum
  | [], k, _ => by simp [bulkRs]
  | y :: l, k, h => by
    rw [List.length_cons, List.range'_succ, List.map_cons, bulkRs, List.map_cons, List.sum_cons]
    have h0 := h 0 y rfl
    have h1 := bulk_rows f g l (k + 1) fun i z hz => by
      have := h (i + 1) z (by simpa using hz)
      rwa [show k + (i + 1) = k + 1 + i from by omega] at this
    simp only [Nat.add_zero] at h0
    omega

/-- The old blocks. -/
abbrev Old (w : World) : Nat → Prop := fun b => b < w.heap.size
def CellsR (w : World) (ps : List PV) (cs : List Value) : Prop := ps.length = cs.length ∧ ∀ (i : Nat) (p : PV) (v : Value), ps[i]? = some p → cs[i]? = some v → PVR w (Old w) p v
theorem cellsR_one {w : World} {p : PV} {v : Value} (h : PVR w (Old w) p v) : CellsR w [p] [v] := by
  refine ⟨rfl, fun i q u hq hu => ?_⟩
  match i with
  | 0 => simp at hq hu; subst hq hu; exact h
  | i + 1 => simp at hq
theorem cellsR_append {w : World} {ps qs : List PV} {cs ds : List Value} (h : CellsR w ps cs) (h' : CellsR w qs ds) : CellsR w (ps ++ qs) (cs ++ ds) := by
  refine ⟨by simp [h.1, h'.1], fun i p v hp hv => ?_⟩
  by_cases hi : i < ps.length
  · rw [List.getElem?_append_left hi] at hp
    rw [List.getElem?_append_left (by rw [← h.1]; exact hi)] at hv
    exact h.2 i p v hp hv
  · rw [List.getElem?_append_right (by omega)] at hp
    rw [List.getElem?_append_right (by rw [← h.1]; omega), ← h.1] at hv
    exact h'.2 _ p v hp hv

theorem cell_some {w : World} {a : Addr} {v : Value} (h : w.cell? a = some v) : a.block < w.heap.size ∧ a.spot = none := by
  unfold World.cell? at h
  split at h
  · rename_i c e f hb
    refine ⟨(Array.getElem?_eq_some_iff.1 hb).1, ?_⟩
    split at h
    · cases h
    · rename_i hs
      cases hsp : a.spot with
      | none => rfl
      | some x => rw [hsp] at hs; simp at hs
  · cases h
theorem add_none {a : Addr} (h : a.spot = none) (i j : Nat) : (a.add i).add j = ⟨a.block, a.off + (i + j), none⟩ := by
  obtain ⟨b, o, s⟩ := a
  simp only at h
  subst h
  unfold Addr.add
  by_cases hi : i = 0 <;> by_cases hj : j = 0 <;> simp [hi, hj] <;> omega

section
variable {H : Type} {enc : TypeId × Value → H} {P : Program} {w : World} {base : Nat} {sp : Nat → Bool} {held : Bool} {L : List Nat} {N : Nat} {μ : DataW H → Nat}

theorem read_fs {m : Nat} {g : Nat → Option (List CK)} (cs : List Value) (ih : ∀ (t : TypeId) (ks : List CK) (cs : List Value) (x : DataW H × List MemPlace), g t = some ks → DataW.trod enc P w base sp held m t cs = some x → ∃ ps, Shp P L N ks ps ∧ CellsR w ps cs ∧ bulkPs ps ≤ μ x.1) :
    ∀ (fl : List Field) (o : Nat) (ks : List CK), flatFs P g fl o = some ks → (∀ f ∈ fl, ∃ x, DataW.trod enc P w base sp held m f.type ((cs.drop f.offset).take (P.cellsOf f.type)) = some x) →
      ∃ ps n, Shp P L N ks ps ∧ CellsR w ps ((cs.drop o).take n) ∧ (fl.map fun f => P.cellsOf f.type).sum = n ∧ ps.length = n ∧ bulkPs ps ≤ (fl.map fun f => match DataW.trod enc P w base sp held m f.type ((cs.drop f.offset).take (P.cellsOf f.type)) with | some x => μ x.1 | none => 0).sum
  | [], o, ks, h, _ => by
    simp only [flatFs, Option.some.injEq] at h
    subst h
    exact ⟨[], 0, .nil, ⟨by simp, fun i p v hp => by simp at hp⟩, by simp, rfl, by simp [bulkPs]⟩
  | f :: r, o, ks, h, hx => by
    simp only [flatFs] at h
    cases ho : Nat.beq f.offset o with
    | false => rw [ho] at h; cases h
    | true =>
      rw [ho, cond_true] at h
      split at h
      · rename_i a b ha hb
        cases hlen : Nat.beq a.length (P.cellsOf f.type) with
        | false => rw [hlen] at h; cases h
        | true =>
          rw [hlen, cond_true, Option.some.injEq] at h
          subst h
          have ho' := Nat.eq_of_beq_eq_true ho
          have hlen' := Nat.eq_of_beq_eq_true hlen
          obtain ⟨x, hx1⟩ := hx f (List.mem_cons_self ..)
          obtain ⟨p1, h1, h2, hb1⟩ := ih _ _ _ _ ha hx1
          obtain ⟨p2, n, h3, h4, h5, h6, hb2⟩ := read_fs cs ih r (o + P.cellsOf f.type) b hb fun f hf => hx f (List.mem_cons_of_mem _ hf)
          rw [ho'] at h2
          have hp1 : p1.length = P.cellsOf f.type := by rw [h1.length, hlen']
          refine ⟨p1 ++ p2, P.cellsOf f.type + n, h1.append h3, ?_, by simp [h5], by simp [hp1, h6], ?_⟩
          · rw [List.take_add, List.drop_drop]
            exact cellsR_append h2 h4
          · rw [bulkPs_append, List.map_cons, List.sum_cons, hx1]
            exact Nat.add_le_add hb1 hb2
      · cases h

theorem read (hall : allFlat P L N L = true) (hμ : Mu μ) : ∀ (fuel n : Nat) (t : TypeId) (ks : List CK) (cs : List Value) (x : DataW H × List MemPlace), flatK P L n t = some ks → DataW.trod enc P w base sp held fuel t cs = some x →
    ∃ ps, Shp P L N ks ps ∧ CellsR w ps cs ∧ bulkPs ps ≤ μ x.1
  | 0, n, t, ks, cs, x, _, h => by simp [DataW.trod] at h
  | fuel + 1, 0, t, ks, cs, x, hk, h => by simp [flatK] at hk
  | fuel + 1, n + 1, t, ks, cs, x, hk, h => by
    simp only [flatK] at hk
    split at hk
    · rename_i k ht
      simp only [Option.some.injEq] at hk
      subst hk
      obtain ⟨m, rfl, rfl, hw⟩ := DataW.trod_int ht h
      exact ⟨[.int k m], .int hw .nil, cellsR_one (.int k m), by simpa [bulkPs, bulkP] using hμ.lit _⟩
    · rename_i ht
      simp only [Option.some.injEq] at hk
      subst hk
      obtain ⟨b, rfl, rfl⟩ := DataW.trod_bool ht h
      exact ⟨[.bool b], .bool .nil, cellsR_one (.bool b), by simpa [bulkPs, bulkP] using hμ.lit _⟩
    · rename_i ht
      simp only [Option.some.injEq] at hk
      subst hk
      obtain ⟨s, rfl, rfl, hs⟩ := DataW.trod_string ht h
      refine ⟨[.str s], .str hs .nil, cellsR_one (.str s), ?_⟩
      have := hμ.str s.data.toList
      simp only [bulkPs, bulkP, Nat.add_zero]
      have hl : s.data.toList.length = s.size := by cases s; rfl
      omega
    · rename_i e ht
      cases hc : (memb e L && Nat.ble 1 (P.cellsOf e)) with
      | false => rw [hc] at hk; cases hk
      | true =>
        rw [hc, cond_true, Option.some.injEq] at hk
        subst hk
        rw [Bool.and_eq_true] at hc
        obtain ⟨ke, hke⟩ := allFlat_spec hall e (memb_iff.1 hc.1)
        have hpos : 1 ≤ P.cellsOf e := Nat.le_of_ble_eq_true hc.2
        rcases DataW.trod_slice ht h with ⟨rfl, rfl⟩ | ⟨a, len, cap, elems, rest, m, hm, rfl, rfl, hb, hl, hmx, hlen, hel, _, _⟩
        · refine ⟨[.vs (P.cellsOf e) []], .sl hke (Nat.zero_le _) (fun r hr => by cases hr) (fun r hr => by cases hr) .nil, cellsR_one ?_, by simpa [bulkPs, bulkP, bulkRs] using hμ.nil⟩
          exact .vs _ [] none 0 (fun _ _ => undef) (Nat.le_refl _) (Nat.zero_le _) (fun _ => rfl) (fun r hr => by cases hr) (fun h => absurd rfl h) (fun i j hi => absurd hi (Nat.not_lt_zero _)) (fun i j r p hr => by simp at hr)
        · have hm' : fuel = m := by omega
          subst hm'
          have each : ∀ i, ∃ (row : List PV) (vs : List Value), i < len → Shp P L N ke row ∧ row.length = P.cellsOf e ∧ CellsR w row vs ∧ vs.length = P.cellsOf e ∧ (∀ j, j < P.cellsOf e → w.cell? ((a.add (i * P.cellsOf e)).add j) = vs[j]?) ∧ ∀ y, elems[i]? = some y → bulkPs row ≤ μ y.1 := by
            intro i
            by_cases hi : i < len
            · have h1 := hel i hi
              rw [List.getElem?_eq_getElem (by omega), Option.bind_eq_some_iff] at h1
              obtain ⟨vs, h2, h3⟩ := h1
              obtain ⟨row, h4, h5, hbk⟩ := read hall hμ fuel N e ke vs _ hke h3
              obtain ⟨_, h6, h7⟩ := World.cells?_some h2
              exact ⟨row, vs, fun _ => ⟨h4, by rw [h5.1, h6], h5, h6, h7, fun y hy => by rw [List.getElem?_eq_getElem (by omega)] at hy; cases hy; exact hbk⟩⟩
            · exact ⟨[], [], fun h => absurd h hi⟩
          obtain ⟨g, hg⟩ := Classical.skolem.1 each
          obtain ⟨u, hu⟩ := Classical.skolem.1 hg
          have hrows : ∀ r ∈ (List.range len).map g, ∃ i, i < len ∧ g i = r := by
            intro r hr
            obtain ⟨i, h1, h2⟩ := List.mem_map.1 hr
            exact ⟨i, List.mem_range.1 h1, h2⟩
          have hcell : ∀ i j, i < len → j < P.cellsOf e → w.cell? ((a.add (i * P.cellsOf e)).add j) = some ((u i).getD j undef) := by
            intro i j hi hj
            obtain ⟨_, _, _, h4, h5, _⟩ := hu i hi
            rw [h5 j hj, List.getD_eq_getElem?_getD, List.getElem?_eq_getElem (by omega)]
            rfl
          have hval : ∀ i j, i < len → j < P.cellsOf e → ∃ p, (g i)[j]? = some p ∧ PVR w (Old w) p ((u i).getD j undef) := by
            intro i j hi hj
            obtain ⟨_, h2, h3, h4, _⟩ := hu i hi
            refine ⟨_, List.getElem?_eq_getElem (by omega), h3.2 j _ _ (List.getElem?_eq_getElem (by omega)) ?_⟩
            rw [List.getD_eq_getElem?_getD, List.getElem?_eq_getElem (by omega)]
            rfl
          refine ⟨[.vs (P.cellsOf e) ((List.range len).map g)], .sl hke (by simp; omega) (fun r hr => ?_) (fun r hr => ?_) .nil, cellsR_one ?_, ?_⟩
          · obtain ⟨i, hi, rfl⟩ := hrows r hr
            exact (hu i hi).2.1
          · obtain ⟨i, hi, rfl⟩ := hrows r hr
            exact (hu i hi).1
          · have hlr : ((List.range len).map g).length = len := by simp
            have := PVR.vs (w := w) (S := Old w) (P.cellsOf e) ((List.range len).map g) (some a) cap (fun i j => (u i).getD j undef) (by rw [hlr]; exact hl) hmx (fun h => by cases h) (fun r hr => by obtain ⟨i, hi, rfl⟩ := hrows r hr; exact (hu i hi).2.1)
              (fun hne => by
                have hl0 : 0 < len := by
                  rcases Nat.eq_zero_or_pos len with h0 | h0
                  · subst h0; exact absurd rfl hne
                  · exact h0
                have h0 := hcell 0 0 hl0 hpos
                obtain ⟨hbk, hspot⟩ := cell_some h0
                rw [Nat.zero_mul] at hbk hspot
                have hspot' : a.spot = none := by simpa [Addr.add] using hspot
                have hbk' : a.block < w.heap.size := by simpa [Addr.add] using hbk
                obtain ⟨b, o, s⟩ := a
                simp only at hspot' hbk'
                subst hspot'
                refine ⟨b, o, rfl, hbk', fun i j hi hj => ?_⟩
                rw [hlr] at hi
                rw [← hcell i j hi hj, add_none rfl])
              (fun i j hi hj => by rw [hlr] at hi; exact (hval i j hi hj).choose_spec.2.one)
              (fun i j r p hr hp => by
                rw [List.getElem?_map] at hr
                obtain ⟨i', h1, rfl⟩ := Option.map_eq_some_iff.1 hr
                have hi : i < len := by
                  have := (List.getElem?_eq_some_iff.1 h1).1
                  simpa using this
                have h2 : i' = i := by
                  rw [List.getElem?_range hi] at h1
                  exact (Option.some.inj h1).symm
                subst h2
                have hj : j < P.cellsOf e := by
                  have := (List.getElem?_eq_some_iff.1 hp).1
                  rw [(hu i' hi).2.1] at this
                  exact this
                obtain ⟨q, h3, h4⟩ := hval i' j hi hj
                rw [h3] at hp
                cases hp
                exact h4)
            rw [hlr] at this
            exact this
          · have hb2 := bulk_rows (fun y : DataW H × List MemPlace => μ y.1) g elems 0 fun i y hy => by
              have hi : i < len := by rw [← hlen]; exact (List.getElem?_eq_some_iff.1 hy).1
              rw [Nat.zero_add]
              exact (hu i hi).2.2.2.2.2 y hy
            rw [hlen, ← List.range_eq_range'] at hb2
            have hb3 := hμ.slice (elems.map (·.1)) (rest.map (·.1))
            rw [List.map_map] at hb3
            simp only [bulkPs, bulkP, Nat.add_zero]
            exact Nat.le_trans (Nat.add_le_add_right hb2 1) hb3
    · rename_i fs ht
      split at hk
      case h_2 => cases hk
      rename_i ks' hks
      cases hkl : Nat.beq ks'.length (P.cellsOf t) with
      | false => rw [hkl] at hk; cases hk
      | true =>
      rw [hkl, cond_true, Option.some.injEq] at hk
      subst hk
      have hkl' := Nat.eq_of_beq_eq_true hkl
      obtain ⟨xs, m, hm, rfl, hcl, hxl, hf⟩ := DataW.trod_struct ht h
      have hm' : fuel = m := by omega
      subst hm'
      obtain ⟨ps, k, h1, h2, h3, h4, hbk⟩ := read_fs (μ := μ) (g := flatK P L n) cs (fun t ks cs x => read hall hμ fuel n t ks cs x) fs.toList 0 ks' hks (fun f hfm => by
        obtain ⟨i, hi⟩ := List.getElem?_of_mem hfm
        have hi' : fs[i]? = some f := by simpa using hi
        have hlt : i < xs.length := by
          rw [hxl]
          exact (Array.getElem?_eq_some_iff.1 hi').1
        exact ⟨_, (hf i f hi').trans (List.getElem?_eq_getElem hlt)⟩)
      have hk2 : k = cs.length := by rw [← h4, h1.length, hkl', hcl]
      rw [List.drop_zero, hk2, List.take_length] at h2
      refine ⟨ps, h1, h2, Nat.le_trans hbk ?_⟩
      have hsum : (fs.toList.map fun f => match DataW.trod enc P w base sp held fuel f.type ((cs.drop f.offset).take (P.cellsOf f.type)) with | some x => μ x.1 | none => 0) = (xs.map (·.1)).map μ := by
        rw [List.map_map]
        apply List.ext_getElem?
        intro i
        rw [List.getElem?_map, List.getElem?_map]
        cases hi : fs.toList[i]? with
        | none =>
          have : xs[i]? = none := by
            rw [List.getElem?_eq_none_iff] at hi ⊢
            rw [hxl]
            simpa using hi
          rw [this]
          rfl
        | some f =>
          have hi' : fs[i]? = some f := by simpa using hi
          have hlt : i < xs.length := by
            rw [hxl]
            exact (Array.getElem?_eq_some_iff.1 hi').1
          have h5 := hf i f hi'
          rw [List.getElem?_eq_getElem hlt] at h5 ⊢
          simp only [Option.map_some, h5]
          rfl
      rw [hsum]
      exact hμ.agg _
    · cases hk
theorem cells_avr {ps : List PV} {cs : Array Value} (h : CellsR w ps cs.toList) : AVR w (Old w) (fun _ => undef) 0 (.agg (pvs ps)) (.agg cs) := by
  refine .one (.agg ⟨by rw [(pvs_spec ps).1, h.1, Array.length_toList], fun i x hx => ?_⟩)
  obtain ⟨p, hp, rfl⟩ := (pvs_spec ps).2.1 i x hx
  have hlt : i < cs.size := by have := (List.getElem?_eq_some_iff.1 hp).1; rw [h.1, Array.length_toList] at this; exact this
  refine ⟨_, Array.getElem?_eq_getElem hlt, .pv (h.2 i p _ hp ?_)⟩
  rw [Array.getElem?_toList, Array.getElem?_eq_getElem hlt]
/-- The measure that says nothing. -/
theorem cells_any {ps : List PV} {cs : Array Value} (h : CellsR w ps cs.toList) (S : Nat → Prop) (hS : ∀ b, b < w.heap.size → S b) : LsR w S (fun _ => undef) 0 (pvs ps) cs := by
  refine ⟨by rw [(pvs_spec ps).1, h.1, Array.length_toList], fun i x hx => ?_⟩
  obtain ⟨p, hp, rfl⟩ := (pvs_spec ps).2.1 i x hx
  have hlt : i < cs.size := by have := (List.getElem?_eq_some_iff.1 hp).1; rw [h.1, Array.length_toList] at this; exact this
  refine ⟨_, Array.getElem?_eq_getElem hlt, .pv ((h.2 i p _ hp ?_).mono (fun _ _ => rfl) hS)⟩
  rw [Array.getElem?_toList, Array.getElem?_eq_getElem hlt]
end
end Go.Proofs.Ytijjagkeaehhbaa.Eng
