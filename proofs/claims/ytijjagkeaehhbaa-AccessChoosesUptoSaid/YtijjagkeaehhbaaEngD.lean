/- The engine's operations are sound: types, loads, stores, fields, indices. -/
import Derived.Test.YtijjagkeaehhbaaEngC
set_option linter.unusedSimpArgs false
set_option linter.unusedVariables false
namespace Go.Proofs.Ytijjagkeaehhbaa.Eng
open Go.RowKit (Below)

theorem eqPV_eq {a b : PV} (h : eqPV a b = true) : a = b := by
  unfold eqPV at h
  split at h <;> first | rfl | (cases h; done) | skip
  · simp only [Bool.and_eq_true, beq_iff_eq] at h; rw [h.1, h.2]
  · simp only [beq_iff_eq] at h; rw [h]
  · rename_i x y
    simp only [Bool.and_eq_true, beq_iff_eq] at h
    obtain rfl : x = ByteArray.empty := ByteArray.ext (Array.eq_empty_of_size_eq_zero h.1.2)
    obtain rfl : y = ByteArray.empty := ByteArray.ext (Array.eq_empty_of_size_eq_zero h.2)
    rfl
theorem eqPVs_eq : ∀ {a b : List PV}, eqPVs a b = true → a = b
  | [], [], _ => rfl
  | [], _ :: _, h => by simp [eqPVs] at h
  | _ :: _, [], h => by simp [eqPVs] at h
  | x :: a, y :: b, h => by
    simp only [eqPVs, Bool.and_eq_true] at h
    rw [eqPV_eq h.1, eqPVs_eq h.2]
theorem csts_get : ∀ {vs : List Value} {ps : List PV}, csts vs = some ps → ps.length = vs.length ∧ ∀ (i : Nat) p, ps[i]? = some p → ∃ v, vs[i]? = some v ∧ cst v = some p
  | [], ps, h => by simp only [csts, Option.some.injEq] at h; subst h; exact ⟨rfl, fun i p hp => by simp at hp⟩
  | v :: r, ps, h => by
    simp only [csts] at h
    split at h
    · rename_i p q hp hq
      cases h
      obtain ⟨h1, h2⟩ := csts_get hq
      refine ⟨by simp [h1], fun i x hx => ?_⟩
      match i with
      | 0 => simp only [List.getElem?_cons_zero, Option.some.injEq] at hx; subst hx; exact ⟨v, rfl, hp⟩
      | i + 1 => simpa using h2 i x (by simpa using hx)
    · cases h

structure TypeOk (P : Program) (t : Nat) (i : TI) (j : TypeInfo) (d : TypeDesc) (z : Value) : Prop where
  info : P.info? t = some j
  und : P.underlying t = some d
  size : j.size = i.size
  bytes : j.bytes = i.bytes
  agg : descAgg d = i.agg
  pos : 0 < i.size
  zero : j.zero = some z
  zsize : z.cells.size = i.size
  zcs : csts z.cells.toList = some i.zero
  zagg : zagg i.agg z = true
  el : ∀ e, i.el = some e → d = .slice e
  st : i.agg = true → ∃ fs, d = .struct fs
  str : i.str = true → d = .string
  knd : ∀ k, i.knd = some k → d = .int k
  fo : ∀ (f : Nat) (o : Nat × Nat × Bool), i.fo[f]? = some o → ∃ (fs : Array Field) (ft : Field) (q : TypeInfo) (e : TypeDesc), d = .struct fs ∧ fs[f]? = some ft ∧ ft.offset = o.1 ∧ P.info? ft.type = some q ∧ P.underlying ft.type = some e ∧ q.size = o.2.1 ∧ descAgg e = o.2.2 ∧ 0 < q.size
  fs : ∀ fs : Array Field, d = .struct fs → ∀ f : Nat, (fs[f]?).isSome = (i.fo[f]?).isSome

theorem zip_all {α β : Type} (p : α × β → Bool) : ∀ (xs : List α) (ys : List β), xs.length = ys.length → (xs.zip ys).all p = true → ∀ (i : Nat) (y : β), ys[i]? = some y → ∃ x, xs[i]? = some x ∧ p (x, y) = true
  | [], [], _, _, i, y, h => by simp at h
  | x :: xs, y :: ys, hl, ha, i, z, h => by
    simp only [List.zip_cons_cons, List.all_cons, Bool.and_eq_true] at ha
    match i with
    | 0 => simp only [List.getElem?_cons_zero, Option.some.injEq] at h; subst h; exact ⟨x, rfl, ha.1⟩
    | i + 1 => simpa using zip_all p xs ys (by simpa using hl) ha.2 i z (by simpa using h)
  | [], _ :: _, hl, _, _, _, _ => by simp at hl
  | _ :: _, [], hl, _, _, _, _ => by simp at hl

theorem typeOk {P : Program} {t : Nat} {i : TI} (h : tiOk P t i = true) : ∃ j d z, TypeOk P t i j d z := by
  unfold tiOk at h
  split at h
  · rename_i j d hj hd
    simp only [Bool.and_eq_true, beq_iff_eq, decide_eq_true_eq] at h
    obtain ⟨⟨⟨⟨⟨h1, h2⟩, h3⟩, h4⟩, h5⟩, h6⟩ := h
    split at h5
    · rename_i z hz
      simp only [Bool.and_eq_true, beq_iff_eq] at h5
      obtain ⟨⟨h5, h7⟩, h8⟩ := h5
      refine ⟨j, d, z, hj, hd, h1, h2, h3, h4, hz, h5, ?_, h8, ?_, ?_, ?_, ?_, ?_, ?_⟩
      · split at h7
        · rename_i l hl; rw [hl, eqPVs_eq h7]
        · cases h7
      · intro e he
        cases d <;> simp_all
      · intro ha
        rw [ha] at h3
        cases d with
        | struct fs => exact ⟨fs, rfl⟩
        | array n e => cases h6
        | _ => cases h3
      · intro hs
        cases d <;> simp_all
      · intro k hk
        cases d <;> simp_all
      · intro f o ho
        cases d with
        | struct fs =>
          simp only [Bool.and_eq_true, beq_iff_eq] at h6
          obtain ⟨ft, hft, hp⟩ := zip_all _ fs.toList i.fo h6.1.2 h6.2 f o ho
          dsimp only at hp
          simp only [Bool.and_eq_true, beq_iff_eq] at hp
          split at hp
          · rename_i q e hq he
            simp only [Bool.and_eq_true, beq_iff_eq, decide_eq_true_eq] at hp
            exact ⟨fs, ft, q, e, rfl, by simpa using hft, hp.1, hq, he, hp.2.1.1, hp.2.1.2, hp.2.2⟩
          · simp at hp
        | _ =>
          exfalso
          simp only [Bool.and_eq_true, beq_iff_eq] at h6
          first
            | (cases h6; done)
            | (have hl : i.fo.length = 0 := by first | exact h6.1.1.2 | exact h6.1.2 | exact h6.2
               have : i.fo = [] := List.eq_nil_of_length_eq_zero hl
               rw [this] at ho; simp at ho)
      · intro fs hfs f
        subst hfs
        simp only [Bool.and_eq_true, beq_iff_eq] at h6
        have hl := h6.1.2
        rw [Array.length_toList] at hl
        by_cases hf : f < i.fo.length
        · rw [Array.getElem?_eq_getElem (by omega), List.getElem?_eq_getElem hf]; rfl
        · rw [Array.getElem?_eq_none (by omega), List.getElem?_eq_none (by omega)]; rfl
    · cases h5
  · cases h

section
variable {P : Program} {t : Nat} {i : TI} {j : TypeInfo} {d : TypeDesc} {z : Value} (h : TypeOk P t i j d z) (w : World)
include h
theorem TypeOk.run_info : (typeInfo t).run P w = .ok j w := by simp [typeInfo, h.info]
theorem TypeOk.run_size : (sizeOf t).run P w = .ok i.size w := by simp [sizeOf, h.run_info, h.size]
theorem TypeOk.run_und : (underlying t).run P w = .ok d w := run_underlying h.und w
theorem TypeOk.run_agg : (isAgg t).run P w = .ok i.agg w := by
  rw [← h.agg]
  unfold isAgg
  rw [Sem.run_bind, h.run_und]
  simp only [Result.andThen_ok]
  cases d <;> rfl
theorem TypeOk.run_zero : (zeroValue t).run P w = .ok z w := by simp [zeroValue, h.run_info, h.zero]
theorem TypeOk.zls (S : Nat → Prop) (σ : Nat → Value) (n : Nat) : LsR w S σ n (pvs i.zero) z.cells := by
  obtain ⟨h1, h2⟩ := csts_get h.zcs
  have hpv : ∀ l : List PV, (pvs l).length = l.length ∧ ∀ (k : Nat) x, (pvs l)[k]? = some x → ∃ p, l[k]? = some p ∧ x = .pv p := by
    intro l
    induction l with
    | nil => exact ⟨rfl, fun k x hx => by simp [pvs] at hx⟩
    | cons p r ih =>
      refine ⟨by simp [pvs, ih.1], fun k x hx => ?_⟩
      match k with
      | 0 => simp only [pvs, List.getElem?_cons_zero, Option.some.injEq] at hx; exact ⟨p, rfl, hx.symm⟩
      | k + 1 => simpa using ih.2 k x (by simpa [pvs] using hx)
  refine ⟨by rw [(hpv i.zero).1, h1, Array.length_toList], fun k x hx => ?_⟩
  obtain ⟨p, hp, rfl⟩ := (hpv i.zero).2 k x hx
  obtain ⟨v, hv, hc⟩ := h2 k p hp
  exact ⟨v, by simpa using hv, .pv (cst_sound hc)⟩
end

theorem pvs_spec : ∀ l : List PV, (pvs l).length = l.length ∧ (∀ (k : Nat) x, (pvs l)[k]? = some x → ∃ p, l[k]? = some p ∧ x = .pv p) ∧ ∀ (k : Nat) p, l[k]? = some p → (pvs l)[k]? = some (.pv p) := by
  intro l
  induction l with
  | nil => exact ⟨rfl, fun k x hx => by simp [pvs] at hx, fun k p hp => by simp at hp⟩
  | cons p r ih =>
    refine ⟨by simp [pvs, ih.1], fun k x hx => ?_, fun k x hx => ?_⟩
    · match k with
      | 0 => simp only [pvs, List.getElem?_cons_zero, Option.some.injEq] at hx; exact ⟨p, rfl, hx.symm⟩
      | k + 1 => simpa using ih.2.1 k x (by simpa [pvs] using hx)
    · match k with
      | 0 => simp only [List.getElem?_cons_zero, Option.some.injEq] at hx; subst hx; rfl
      | k + 1 => simpa [pvs] using ih.2.2 k x (by simpa using hx)
theorem pures_spec : ∀ {l : List LV} {ps : List PV}, pures l = some ps → l = pvs ps
  | [], ps, h => by simp only [pures, Option.some.injEq] at h; subst h; rfl
  | x :: r, ps, h => by
    cases x with
    | pv p =>
      simp only [pures] at h
      split at h
      · rename_i q hq
        cases h
        rw [pures_spec hq]; rfl
      · cases h
    | _ => simp [pures] at h

theorem add_lit (b o k : Nat) : (⟨b, o, none⟩ : Addr).add k = ⟨b, o + k, none⟩ := by unfold Addr.add; split <;> simp_all

/-- Reading a type's cells at an address whose cells are known. -/
theorem load_cells {P : Program} {t : Nat} {i : TI} {j : TypeInfo} {d : TypeDesc} {z : Value} (ht : TypeOk P t i j d z) {w : World} {S : Nat → Prop} {σ : Nat → Value} {n : Nat}
    {b o : Nat} {cs : List LV} (hc : ∀ (k : Nat) x, cs[k]? = some x → ∃ v, w.cell? ⟨b, o + k, none⟩ = some v ∧ LVR w S σ n x v) {off : Nat} {v : AV} (hv : ofCells i.agg cs off i.size = some v) :
    ∃ cv, (Instr.loadAt t (.pointer (some ⟨b, o + off, none⟩))).run P w = .ok cv w ∧ AVR w S σ n v cv := by
  unfold ofCells at hv
  split at hv
  · rename_i hagg
    split at hv
    · rename_i hle
      cases hv
      have hle' := Nat.le_of_ble_eq_true hle
      obtain ⟨f, hf⟩ : ∃ f : Nat → Value, ∀ k x, cs[k]? = some x → w.cell? ⟨b, o + k, none⟩ = some (f k) ∧ LVR w S σ n x (f k) :=
        ⟨fun k => (w.cell? ⟨b, o + k, none⟩).getD undef, fun k x hx => by obtain ⟨v, h1, h2⟩ := hc k x hx; simp [h1, h2]⟩
      have hlen : ((List.range i.size).map fun k => f (off + k)).length = i.size := by simp
      have hl := run_loadCells_list (P := P) w ⟨b, o + off, none⟩ ((List.range i.size).map fun k => f (off + k)) (fun k v hk => by
        rw [add_lit]
        rw [List.getElem?_map] at hk
        cases hr : (List.range i.size)[k]? with
        | none => simp [hr] at hk
        | some m =>
          obtain ⟨hm, rfl⟩ := List.getElem?_eq_some_iff.1 hr
          simp only [List.length_range] at hm
          simp only [hr, Option.map_some, Option.some.injEq, List.getElem_range] at hk
          subst hk
          have := (hf (off + k) _ (List.getElem?_eq_getElem (by omega))).1
          rwa [Nat.add_assoc])
      rw [hlen] at hl
      refine ⟨.agg ((List.range i.size).map fun k => f (off + k)).toArray, ?_, ?_⟩
      · simp [Instr.loadAt, Instr.sureAddr, loadVar, ht.run_agg, hagg, ht.run_size, hl]
      · refine .one (.agg ⟨?_, fun k x hx => ?_⟩)
        · simp; omega
        · rw [List.getElem?_take] at hx
          split at hx
          · rename_i hk
            rw [List.getElem?_drop] at hx
            exact ⟨f (off + k), by simp [hk], (hf _ _ hx).2⟩
          · cases hx
    · cases hv
  · rename_i hagg
    split at hv
    · rename_i x hx
      cases hv
      obtain ⟨cv, h1, h2⟩ := hc off x hx
      exact ⟨cv, by simp [Instr.loadAt, Instr.sureAddr, loadVar, ht.run_agg, hagg, h1], .one (.lf h2)⟩
    · cases hv

/-- The cells of a box, of a row's element, of a pure element. -/
theorem box_cells {w : World} {S : Nat → Prop} {σ : Nat → Value} {n b t : Nat} {vs : Array Value} {cs : List LV} (hb : w.heap[b]? = some (.cells vs t (0, 0))) (h : LsR w S σ n cs vs) :
    ∀ (k : Nat) x, cs[k]? = some x → ∃ v, w.cell? ⟨b, 0 + k, none⟩ = some v ∧ LVR w S σ n x v := by
  intro k x hx
  obtain ⟨v, hv, hr⟩ := h.2 k x hx
  exact ⟨v, by rw [Nat.zero_add, cell_of_row w b k vs t (0, 0) hb]; exact hv, hr⟩

end Go.Proofs.Ytijjagkeaehhbaa.Eng
