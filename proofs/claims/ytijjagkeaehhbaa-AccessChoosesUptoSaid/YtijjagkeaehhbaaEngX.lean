/- The engine: tests and blocks, piece by piece. -/
import Derived.Test.YtijjagkeaehhbaaEngW
set_option linter.unusedSimpArgs false
set_option linter.unusedVariables false
namespace Go.Proofs.Ytijjagkeaehhbaa.Eng

theorem sem_cond {P : Program} {c : Operand} {x y : Code} {s : AS} {K : Exit → AS → Prop} {t : Bool} (hc : s.ev c = .pv (.bool t)) (h1 : t = true → Wlk P x s K) (h2 : t = false → Wlk P y s K) : Wlk P (.cond c x y) s K := by
  refine ⟨fun C a w hst => ?_⟩
  obtain ⟨S, σ, hs⟩ := id hst
  have := hs.ev c
  rw [hc] at this
  exact wp_cond_split this.bool_inv (fun ht => (h1 ht).run C a w hst) (fun ht => (h2 ht).run C a w hst)
theorem sem_block {P : Program} {id : Nat} {c : Code} {s : AS} {K : Exit → AS → Prop} (h : Wlk P c s fun e s' => match e with | .exit i => (match Nat.beq i id with | true => K .normal s' | false => K (.exit i) s') | e => K e s') : Wlk P (.block id c) s K := by
  refine ⟨fun C a w hst => wp_block (wp_mono (h.run C a w hst) ?_)⟩
  rintro e a' w' ⟨s', h1, h2⟩
  cases e with
  | exit i =>
    simp only [Exit.inBlock]
    split
    · rename_i hi
      subst hi
      simp only [Nat.beq_refl] at h1
      exact ⟨s', h1, h2⟩
    · rename_i hi
      simp only [beq_ne hi] at h1
      exact ⟨s', h1, h2⟩
  | _ => exact ⟨s', h1, h2⟩
/-- A part whose ends are told apart from what follows. -/
theorem sem_mono {P : Program} {c : Code} {s : AS} {K K' : Exit → AS → Prop} (h : Wlk P c s K) (hk : ∀ e s', K e s' → K' e s') : Wlk P c s K' := ⟨fun C a w hst => wp_mono (h.run C a w hst) fun e a' w' ⟨s', h1, h2⟩ => ⟨s', hk e s' h1, h2⟩⟩

open Go.RowKit (Below)
/-- A call of a function of which only this is known: what its result is like. -/
theorem callR_of_funR {P : Program} {g : Nat} {args : List AV} {Q : AV → Prop} (h : AFunR P g args Q) (hp : aids args = []) {s : AS} {R : AV → AS → Prop} (hR : ∀ r, Q r → R r s) : CallR P g args s R := by
  refine ⟨h.1, fun C S σ a w hs vs hn hv => ?_⟩
  refine (h.2 w S hs.lt vs hn (fun i x hi => ?_)).mono ?_
  · obtain ⟨v, h1, h2⟩ := hv i x hi
    exact ⟨v, h1, h2.away (fun _ _ => rfl) (fun _ h => h) fun k hm => by have := mem_aids hi hm; rw [hp] at this; cases this⟩
  · rintro e w' ⟨v, r, hq, rfl, hb, hav⟩
    refine ⟨v, r, s, _, σ, hR r hq, rfl, ?_, hs.grow hb⟩
    refine hav.away (fun _ _ => rfl) (fun _ h => h) fun k hm => ?_
    exact absurd (ids_lt hav k hm) (Nat.not_lt_zero _)

/-- A row of one's own that is only read from now on. -/
def AS.frz (s : AS) (d id sz : Nat) (rows : List (List PV)) : AS := { s with fr := fun i => bif Nat.beq i d then .pv (.vs sz rows) else s.fr i, hp := fun j => bif Nat.beq j id then none else s.hp j }
theorem weak_frz {s : AS} {d id t sz : Nat} {rows : List (List PV)} (h : s.fr d = .lv (.sl id)) (ho : s.hp id = some (.row t sz rows)) : Weak s (s.frz d id sz rows) := by
  rintro C a w ⟨S, σ, hs⟩
  have other : ∀ j o, (s.frz d id sz rows).hp j = some o → j ≠ id ∧ s.hp j = some o := by
    intro j o hj
    simp only [AS.frz] at hj
    cases hb : Nat.beq j id with
    | true => rw [hb] at hj; cases hj
    | false =>
      rw [hb] at hj
      exact ⟨fun e => (by subst e; rw [Nat.beq_refl] at hb; cases hb), hj⟩
  refine ⟨fun b => S b ∨ blk (σ id) = some b, σ, ⟨hs.size, hs.defers, fun i => ?_, ⟨fun j o hj => hs.hp.lt j o (other j o hj).2, fun j o hj => ?_, fun j o b hj hb => ?_, fun j o b hj hb => hs.hp.own j o b (other j o hj).2 hb, fun j j' o o' b hj hj' hb hb' => hs.hp.inj j j' o o' b (other j o hj).2 (other j' o' hj').2 hb hb'⟩, fun b hb => ?_, fun b hb => .inl (hs.le b hb), hs.keep, hs.nx, hs.hs, fun b hb => ?_⟩⟩
  · simp only [AS.frz]
    cases hb : Nat.beq i d with
    | true =>
      rw [cond_true]
      have hi := Nat.eq_of_beq_eq_true hb
      subst hi
      have hv := hs.fr i
      rw [h] at hv
      generalize a.tmps.getD i undef = v at hv
      cases hv with
      | one hv => cases hv with
        | lf hv => cases hv with
          | sl _ _ => exact .one (.lf (.pv (objR_pv (hs.hp.obj id _ ho) (fun _ h => .inl h) fun b hb => .inr hb)))
    | false =>
      rw [cond_false]
      exact (hs.fr i).mono (fun _ _ => rfl) (fun _ h => .inl h) (fun _ _ => rfl) (Nat.le_refl _)
  · obtain ⟨_, h2⟩ := other j o hj
    exact (hs.hp.obj j o h2).mono (fun _ _ => rfl) (fun _ h => .inl h) (fun _ _ => rfl) (Nat.le_refl _) (hs.hp.lt j o h2) (fun b _ => rfl)
  · obtain ⟨h1, h2⟩ := other j o hj
    rintro (h3 | h3)
    · exact hs.hp.notS j o b h2 hb h3
    · exact h1 (hs.hp.inj j id o _ b h2 ho hb h3)
  · rcases hb with h3 | h3
    · exact hs.lt b h3
    · exact blk_lt (hs.hp.obj id _ ho) h3
  · rcases hb with h3 | h3
    · exact hs.up b h3
    · rcases hs.hp.own id _ b ho h3 with h4 | h4
      · exact .inr (.inr h4)
      · exact .inr (.inl h4)
end Go.Proofs.Ytijjagkeaehhbaa.Eng
