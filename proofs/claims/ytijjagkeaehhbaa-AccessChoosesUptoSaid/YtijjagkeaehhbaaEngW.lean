/- The engine: interface values. -/
import Derived.Test.YtijjagkeaehhbaaEngV
set_option linter.unusedSimpArgs false
set_option linter.unusedVariables false
namespace Go.Proofs.Ytijjagkeaehhbaa.Eng
open Go.RowKit (Below)

def notIface (P : Program) (t : Nat) : Bool := match P.underlying t with | some (.interface _) => false | some _ => true | none => false

section
variable {P : Program} {ev : Operand → AV} {dst : Option Tmp} {ty : TypeId} {pos : String} {af : Array Edge} {gd : Option (Nat × Bool)}

theorem iface_at {w S σ n t ps v} (h : AVR w S σ n (.pv (.ifa t ps)) v) : ∃ vs : Array Value, v = .iface t (.agg vs) ∧ LsR w S σ n (pvs ps) vs := by
  have h := h.pv_inv
  cases h with
  | ifa t ps vs hn hp =>
    refine ⟨vs, rfl, by rw [(pvs_spec ps).1]; exact hn, fun i x hx => ?_⟩
    obtain ⟨p, hp', rfl⟩ := (pvs_spec ps).2.1 i x hx
    have hlt : i < vs.size := by rw [hn]; exact (List.getElem?_eq_some_iff.1 hp').1
    refine ⟨vs[i], Array.getElem?_eq_getElem hlt, .pv ?_⟩
    have := hp i p hp'
    simpa [Array.getD_eq_getD_getElem?, Array.getElem?_eq_getElem hlt] using this
theorem ls_iface {w S σ n t xs ps vs} (h : LsR w S σ n xs vs) (hp : pures xs = some ps) : AVR w S σ n (.pv (.ifa t ps)) (.iface t (.agg vs)) := by
  have := pures_spec hp
  subst this
  refine .one (.lf (.pv (.ifa t ps vs (by rw [← (pvs_spec ps).1]; exact h.1) fun j p hj => ?_)))
  obtain ⟨v, hv, hr⟩ := h.2 j _ ((pvs_spec ps).2.2 j p hj)
  simp only [Array.getD_eq_getD_getElem?, hv, Option.getD_some]
  cases hr with | pv hr => exact hr

theorem pure_mk {t : Nat} {x : Operand} {xs : List LV} {ps : List PV} (hx : ev x = .agg xs) (hp : pures xs = some ps) (ht : notIface P t = true) : PureOp P ⟨dst, .makeInterface t x, ty, pos, af, gd⟩ ev (.pv (.ifa t ps)) := by
  constructor
  intro w S σ n ρ hρ
  have hv := hρ x (by simp [Op.operands])
  rw [hx] at hv
  generalize hq : ρ x = v at hv
  cases hv with
  | one hv =>
    cases hv with
    | agg hv =>
      refine ⟨_, ?_, ls_iface hv hp⟩
      unfold notIface at ht
      cases hu : P.underlying t with
      | none => rw [hu] at ht; cases ht
      | some d =>
        rw [hu] at ht
        cases d <;> first | (cases ht; done) | simp [execOp, Instr.makeInterface, run_underlying hu, hq]

theorem pure_hit {t a : Nat} {x : Operand} {ps : List PV} (hx : ev x = .pv (.ifa t ps)) (ht : notIface P t = true) : PureOp P ⟨dst, .typeAssert x a t true, ty, pos, af, gd⟩ ev (.tup [.agg (pvs ps), .lf (.pv (.bool true))]) := by
  constructor
  intro w S σ n ρ hρ
  have hv := hρ x (by simp [Op.operands])
  rw [hx] at hv
  obtain ⟨vs, he, hl⟩ := iface_at hv
  refine ⟨.tuple #[.agg vs, .bool true], ?_, .tup (by simp) fun i r hr => ?_⟩
  · unfold notIface at ht
    cases hu : P.underlying t with
    | none => rw [hu] at ht; cases ht
    | some d =>
      rw [hu] at ht
      cases d <;> first | (cases ht; done) | simp [execOp, Instr.typeAssert, run_underlying hu, he]
  · match i with
    | 0 => simp at hr; subst hr; exact ⟨_, rfl, .agg hl⟩
    | 1 => simp at hr; subst hr; exact ⟨_, rfl, .lf (.pv (.bool true))⟩
    | i + 2 => simp at hr

theorem pure_miss {T : Tab} (hT : TOK P T) {t u a : Nat} {x : Operand} {ps : List PV} {i : TI} (hi : T t = some i) (ha : i.agg = true) (hx : ev x = .pv (.ifa u ps)) (ht : notIface P t = true) (hne : Nat.beq u t = false) :
    PureOp P ⟨dst, .typeAssert x a t true, ty, pos, af, gd⟩ ev (.tup [.agg (pvs i.zero), .lf (.pv (.bool false))]) := by
  constructor
  intro w S σ n ρ hρ
  have hv := hρ x (by simp [Op.operands])
  rw [hx] at hv
  obtain ⟨vs, he, hl⟩ := iface_at hv
  obtain ⟨j, d, z, htt⟩ := typeOk (hT t i hi)
  have hzl := htt.zls w S σ n
  have hne' : ¬ u = t := fun e => by subst e; rw [Nat.beq_refl] at hne; cases hne
  obtain ⟨zc, hz⟩ : ∃ zc, z = .agg zc := by
    have hz := htt.zagg
    rw [ha] at hz
    cases z <;> first | exact ⟨_, rfl⟩ | simp [zagg] at hz
  subst hz
  refine ⟨.tuple #[.agg zc, .bool false], ?_, .tup (by simp) fun i r hr => ?_⟩
  · unfold notIface at ht
    cases hu : P.underlying t with
    | none => rw [hu] at ht; cases ht
    | some d =>
      rw [hu] at ht
      cases d <;> first | (cases ht; done) | simp [execOp, Instr.typeAssert, run_underlying hu, he, hne', htt.run_zero]
  · match i with
    | 0 => simp at hr; subst hr; exact ⟨_, rfl, .agg hzl⟩
    | 1 => simp at hr; subst hr; exact ⟨_, rfl, .lf (.pv (.bool false))⟩
    | i + 2 => simp at hr
theorem pure_nil {T : Tab} (hT : TOK P T) {t a : Nat} {x : Operand} {i : TI} (hi : T t = some i) (ha : i.agg = true) (hx : ev x = .pv .nilif) (ht : notIface P t = true) :
    PureOp P ⟨dst, .typeAssert x a t true, ty, pos, af, gd⟩ ev (.tup [.agg (pvs i.zero), .lf (.pv (.bool false))]) := by
  constructor
  intro w S σ n ρ hρ
  have hv := hρ x (by simp [Op.operands])
  rw [hx] at hv
  have he : ρ x = .nilIface := by have := hv.pv_inv; generalize ρ x = v at this; cases this; rfl
  obtain ⟨j, d, z, htt⟩ := typeOk (hT t i hi)
  have hzl := htt.zls w S σ n
  obtain ⟨zc, hz⟩ : ∃ zc, z = .agg zc := by
    have hz := htt.zagg
    rw [ha] at hz
    cases z <;> first | exact ⟨_, rfl⟩ | simp [zagg] at hz
  subst hz
  refine ⟨.tuple #[.agg zc, .bool false], ?_, .tup (by simp) fun i r hr => ?_⟩
  · unfold notIface at ht
    cases hu : P.underlying t with
    | none => rw [hu] at ht; cases ht
    | some d =>
      rw [hu] at ht
      cases d <;> first | (cases ht; done) | simp [execOp, Instr.typeAssert, run_underlying hu, he, htt.run_zero]
  · match i with
    | 0 => simp at hr; subst hr; exact ⟨_, rfl, .agg hzl⟩
    | 1 => simp at hr; subst hr; exact ⟨_, rfl, .lf (.pv (.bool false))⟩
    | i + 2 => simp at hr

/-- A part of a slice that is read. -/
theorem pure_slice {t : Nat} {x : Operand} {lo hi : Option Operand} {sz : Nat} {rows : List (List PV)} {l h : Nat} (hx : ev x = .pv (.vs sz rows)) {e : Nat} (ht : P.underlying t = some (.slice e)) (hsz : P.cellsOf e = sz) (he : (P.info? e).isSome = true)
    (hlo : match lo with | some y => ∃ k, ev y = .pv (.int k l) | none => l = 0) (hhi : match hi with | some y => ∃ k, ev y = .pv (.int k h) | none => h = rows.length) (h1 : l ≤ h) (h2 : h ≤ rows.length) :
    PureOp P ⟨dst, .slice t x lo hi none, ty, pos, af, gd⟩ ev (.pv (.vs sz ((rows.take h).drop l))) := by
  constructor
  intro w S σ n ρ hρ
  have hv := (hx ▸ hρ x (by simp [Op.operands])).pv_inv
  generalize hq : ρ x = v at hv
  cases hv with
  | vs _ _ A cap f hc hm hN hs hA hone hp =>
    have hel : P.elem t = e := by simp [Program.elem, ht]
    have ht' : P.underlying t = some (.slice (P.elem t)) := by rw [hel]; exact ht
    have hs' : (sizeOf (P.elem t)).run P w = .ok sz w := by
      rw [hel]
      obtain ⟨i, hi⟩ := Option.isSome_iff_exists.1 he
      rw [← hsz]
      simp [sizeOf, typeInfo, hi, Program.cellsOf]
    have hrun : (Instr.sliceAt t (.slice A rows.length cap) (lo.map ρ) (hi.map ρ) none).run P w = .ok (sliced A l h cap sz) w := by
      rw [run_sliceAt_slice _ _ _ _ _ _ ht']
      cases lo with
      | none =>
        simp only at hlo
        subst hlo
        cases hi with
        | none =>
          simp only at hhi
          subst hhi
          rw [Option.map_none, run_slice_all _ _ _ _ _ ht', hs']
          rfl
        | some y =>
          obtain ⟨k, hy⟩ := hhi
          have := (hy ▸ hρ y (by simp [Op.operands])).int_inv
          rw [Option.map_none, Option.map_some, this, run_slice_h _ _ _ _ _ ht' _ _ (by omega) (by omega), hs']
          rfl
      | some x' =>
        obtain ⟨k', hx'⟩ := hlo
        have h3 := (hx' ▸ hρ x' (by simp [Op.operands])).int_inv
        cases hi with
        | none =>
          simp only at hhi
          subst hhi
          rw [Option.map_none, Option.map_some, h3, run_slice_l _ _ _ _ _ ht' _ _ (by omega) (by omega), hs']
          rfl
        | some y =>
          obtain ⟨k, hy⟩ := hhi
          have := (hy ▸ hρ y (by simp [Op.operands])).int_inv
          rw [Option.map_some, Option.map_some, h3, this, run_slice_lh _ _ _ _ _ ht' _ _ _ _ (by omega) (by omega) (by omega), hs']
          rfl
    refine ⟨_, by simp only [execOp, hq, Option.map_none]; exact run_v hrun, .one (.lf (.pv ?_))⟩
    have hlen : ((rows.take h).drop l).length = h - l := by rw [List.length_drop, List.length_take]; omega
    have hget : ∀ (i : Nat) r, ((rows.take h).drop l)[i]? = some r → rows[l + i]? = some r ∧ i < h - l := by
      intro i r hr
      have h3 : i < h - l := by rw [← hlen]; exact (List.getElem?_eq_some_iff.1 hr).1
      rw [List.getElem?_drop, List.getElem?_take_of_lt (by omega)] at hr
      exact ⟨hr, h3⟩
    have key := PVR.vs (w := w) (S := S) sz ((rows.take h).drop l) (if cap = l then A else A.map (·.add (l * sz))) (cap - l) (fun i j => f (l + i) j) (by rw [hlen]; omega) (by omega)
      (fun hn => by
        split at hn
        · omega
        · cases A with
          | none => have := hN rfl; omega
          | some a => cases hn)
      (fun r hr => hs r (List.mem_of_mem_take (List.mem_of_mem_drop hr)))
      (fun hne => by
        have h3 : 0 < h - l := by
          rw [← hlen]
          exact List.length_pos_iff.2 hne
        obtain ⟨b, o, h4, h5, h6⟩ := hA (by intro h0; subst h0; simp at h2; omega)
        subst h4
        refine ⟨b, o + l * sz, ?_, h5, fun i j hi hj => ?_⟩
        · rw [if_neg (by omega), Option.map_some, add_lit]
        · rw [hlen] at hi
          rw [← h6 (l + i) j (by omega) hj]
          congr 2
          rw [Nat.add_mul]
          omega)
      (fun i j hi hj => hone (l + i) j (by rw [hlen] at hi; omega) hj)
      (fun i j r p hr hj => hp (l + i) j r p (hget i r hr).1 hj)
    rw [hlen] at key
    exact key

end
end Go.Proofs.Ytijjagkeaehhbaa.Eng
