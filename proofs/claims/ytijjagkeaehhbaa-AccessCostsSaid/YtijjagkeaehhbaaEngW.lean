/- The engine: interface values. -/
import Derived.Test.YtijjagkeaehhbaaEngV
set_option linter.unusedSimpArgs false
set_option linter.unusedVariables false
namespace Go.Proofs.Ytijjagkeaehhbaa.Eng
open Go.RowKit (Below)

def notIface (P : Program) (t : Nat) : Bool := match P.underlying t with | some (.interface _) => false | some _ => true | none => false

section
variable {P : Program} {ev : Operand → AV} {dst : Option Tmp} {ty : TypeId} {pos : String} {af : Array Edge} {gd : Option (Nat × Bool)}

theorem iface_at {w S σ n t ps v} (h : AVR w S σ n (.pv (.ifa t ps)) v) : ∃ vs : Array Value, v = .iface t (.agg vs) ∧ LsR w S σ n (pvs ps) vs := by
  have h := h.pv_inv
  cases h with
  | ifa t ps vs hn hp =>
    refine ⟨vs, rfl, by rw [(pvs_spec ps).1]; exact hn, fun i x hx => ?_⟩
    obtain ⟨p, hp', rfl⟩ := (pvs_spec ps).2.1 i x hx
    have hlt : i < vs.size := by rw [hn]; exact (List.getElem?_eq_some_iff.1 hp').1
    refine ⟨vs[i], Array.getElem?_eq_getElem hlt, .pv ?_⟩
    have := hp i p hp'
    simpa [Array.getD_eq_getD_getElem?, Array.getElem?_eq_getElem hlt] using this
theorem ls_iface {w S σ n t xs ps vs} (h : LsR w S σ n xs vs) (hp : pures xs = some ps) : AVR w S σ n (.pv (.ifa t ps)) (.iface t (.agg vs)) := by
  have := pures_spec hp
  subst this
  refine .one (.lf (.pv (.ifa t ps vs (by rw [← (pvs_spec ps).1]; exact h.1) fun j p hj => ?_)))
  obtain ⟨v, hv, hr⟩ := h.2 j _ ((pvs_spec ps).2.2 j p hj)
  simp only [Array.getD_eq_getD_getElem?, hv, Option.getD_some]
  cases hr with | pv hr => exact hr

theorem pure_mk {t : Nat} {x : Operand} {xs : List LV} {ps : List PV} (hx : ev x = .agg xs) (hp : pures xs = some ps) (ht : notIface P t = true) : PureOp P ⟨dst, .makeInterface t x, ty, pos, af, gd⟩ ev (.pv (.ifa t ps)) := by
  constructor
  intro w S σ n ρ hρ
  have hv := hρ x (by simp [Op.operands])
  rw [hx] at hv
  generalize hq : ρ x = v at hv
  cases hv with
  | one hv =>
    cases hv with
    | agg hv =>
      refine ⟨_, ?_, ls_iface hv hp⟩
      unfold notIface at ht
      cases hu : P.underlying t with
      | none => rw [hu] at ht; cases ht
      | some d =>
        rw [hu] at ht
        cases d <;> first | (cases ht; done) | simp [execOp, Instr.makeInterface, run_underlying hu, hq]

theorem pure_hit {t a : Nat} {x : Operand} {ps : List PV} (hx : ev x = .pv (.ifa t ps)) (ht : notIface P t = true) : PureOp P ⟨dst, .typeAssert x a t true, ty, pos, af, gd⟩ ev (.tup [.agg (pvs ps), .lf (.pv (.bool true))]) := by
  constructor
  intro w S σ n ρ hρ
  have hv := hρ x (by simp [Op.operands])
  rw [hx] at hv
  obtain ⟨vs, he, hl⟩ := iface_at hv
  refine ⟨.tuple #[.agg vs, .bool true], ?_, .tup (by simp) fun i r hr => ?_⟩
  · unfold notIface at ht
    cases hu : P.underlying t with
    | none => rw [hu] at ht; cases ht
    | some d =>
      rw [hu] at ht
      cases d <;> first | (cases ht; done) | simp [execOp, Instr.typeAssert, run_underlying hu, he]
  · match i with
    | 0 => simp at hr; subst hr; exact ⟨_, rfl, .agg hl⟩
    | 1 => simp at hr; subst hr; exact ⟨_, rfl, .lf (.pv (.bool true))⟩
    | i + 2 => simp at hr

theorem pure_miss {T : Tab} (hT : TOK P T) {t u a : Nat} {x : Operand} {ps : List PV} {i : TI} (hi : T t = some i) (ha : i.agg = true) (hx : ev x = .pv (.ifa u ps)) (ht : notIface P t = true) (hne : Nat.beq u t = false) :
    PureOp P ⟨dst, .typeAssert x a t true, ty, pos, af, gd⟩ ev (.tup [.agg (pvs i.zero), .lf (.pv (.bool false))]) := by
  constructor
  intro w S σ n ρ hρ
  have hv := hρ x (by simp [Op.operands])
  rw [hx] at hv
  obtain ⟨vs, he, hl⟩ := iface_at hv
  obtain ⟨j, d, z, htt⟩ := typeOk (hT t i hi)
  have hzl := htt.zls w S σ n
  have hne' : ¬ u = t := fun e => by subst e; rw [Nat.beq_refl] at hne; cases hne
  obtain ⟨zc, hz⟩ : ∃ zc, z = .agg zc := by
    have hz := htt.zagg
    rw [ha] at hz
    cases z <;> first | exact ⟨_, rfl⟩ | simp [zagg] at hz
  subst hz
  refine ⟨.tuple #[.agg zc, .bool false], ?_, .tup (by simp) fun i r hr => ?_⟩
  · unfold notIface at ht
    cases hu : P.underlying t with
    | none => rw [hu] at ht; cases ht
    | some d =>
      rw [hu] at ht
      cases d <;> first | (cases ht; done) | simp [execOp, Instr.typeAssert, run_underlying hu, he, hne', htt.run_zero]
  · match i with
    | 0 => simp at hr; subst hr; exact ⟨_, rfl, .agg hzl⟩
    | 1 => simp at hr; subst hr; exact ⟨_, rfl, .lf (.pv (.bool false))⟩
    | i + 2 => simp at hr
theorem pure_nil {T : Tab} (hT : TOK P T) {t a : Nat} {x : Operand} {i : TI} (hi : T t = some i) (ha : i.agg = true) (hx : ev x = .pv .nilif) (ht : notIface P t = true) :
    PureOp P ⟨dst, .typeAssert x a t true, ty, pos, af, gd⟩ ev (.tup [.agg (pvs i.zero), .lf (.pv (.bool false))]) := by
  constructor
  intro w S σ n ρ hρ
  have hv := hρ x (by simp [Op.operands])
  rw [hx] at hv
  have he : ρ x = .nilIface := by have := hv.pv_inv; generalize ρ x = v at this; cases this; rfl
  obtain ⟨j, d, z, htt⟩ := typeOk (hT t i hi)
  have hzl := htt.zls w S σ n
  obtain ⟨zc, hz⟩ : ∃ zc, z = .agg zc := by
    have hz := htt.zagg
    rw [ha] at hz
    cases z <;> first | exact ⟨_, rfl⟩ | simp [zagg] at hz
  subst hz
  refine ⟨.tuple #[.agg zc, .bool false], ?_, .tup (by simp) fun i r hr => ?_⟩
  · unfold notIface at ht
    cases hu : P.underlying t with
    | none => rw [hu] at ht; cases ht
    | some d =>
      rw [hu] at ht
      cases d <;> first | (cases ht; done) | simp [execOp, Instr.typeAssert, run_underlying hu, he, htt.run_zero]
  · match i with
    | 0 => simp at hr; subst hr; exact ⟨_, rfl, .agg hzl⟩
    | 1 => simp at hr; subst hr; exact ⟨_, rfl, .lf (.pv (.bool false))⟩
    | i + 2 => simp at hr

end
end Go.Proofs.Ytijjagkeaehhbaa.Eng
