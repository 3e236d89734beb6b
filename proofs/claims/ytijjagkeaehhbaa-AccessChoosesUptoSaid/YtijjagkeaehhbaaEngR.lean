/- The engine: code. -/
import Derived.Test.YtijjagkeaehhbaaEngQ
import Derived.Scope
set_option linter.unusedSimpArgs false
set_option linter.unusedVariables false
namespace Go.Proofs.Ytijjagkeaehhbaa.Eng
open Go.RowKit (Below)

/-- A state that says less. -/
def Weak (s s' : AS) : Prop := ∀ C a w, St C s a w → St C s' a w

/-- Operations in the text's order. -/
noncomputable def vcOps (P : Program) (T : Tab) (ops : Array Oper) (l : List Oper) : AS → (AS → Prop) → Prop :=
  List.rec (motive := fun _ => AS → (AS → Prop) → Prop) (fun s K => K s)
    (fun o _ next s K => match o.guard with
      | none => vcOp P T o s fun s' => next s' K
      | some (j, want) => match (ops[j]?).bind (·.dst) with
        | some g => match s.fr g with
          | .one (.lf (.pv (.bool c))) => (c = want → vcOp P T o (s.lit g want) fun s' => next s' K) ∧ (c = !want → (s.lit g (!want)).put o.dst (.tup []) fun s' => next s' K)
          | .tup [] => s.put o.dst (.tup []) fun s' => next s' K
          | _ => False
        | none => False) l
theorem vcOps_cons (P : Program) (T : Tab) (ops : Array Oper) (o : Oper) (r : List Oper) (s : AS) (K : AS → Prop) : vcOps P T ops (o :: r) s K = (match o.guard with
    | none => vcOp P T o s fun s' => vcOps P T ops r s' K
    | some (j, want) => match (ops[j]?).bind (·.dst) with
      | some g => match s.fr g with
        | .one (.lf (.pv (.bool c))) => (c = want → vcOp P T o (s.lit g want) fun s' => vcOps P T ops r s' K) ∧ (c = !want → (s.lit g (!want)).put o.dst (.tup []) fun s' => vcOps P T ops r s' K)
        | .tup [] => s.put o.dst (.tup []) fun s' => vcOps P T ops r s' K
        | _ => False
      | none => False) := rfl

noncomputable def vcCode (P : Program) (T : Tab) (c : Code) : AS → (Exit → AS → Prop) → Prop :=
  Code.rec (motive := fun _ => AS → (Exit → AS → Prop) → Prop)
    (fun s K => K .normal s)
    (fun _ ops draw s K => match draw with
      | false => vcOps P T ops ops.toList s (K .normal)
      | true => vcRegionDraw P T ops s (K .normal))
    (fun _ _ va vb s K => va s fun e s' => match e with
      | .normal => vb s' K
      | e => K e s')
    (fun c _ _ vx vy s K => match s.ev c with
      | .one (.lf (.pv (.bool t))) => (t = true → vx s K) ∧ (t = false → vy s K)
      | _ => False)
    (fun id _ vc s K => vc s fun e s' => match e with
      | .exit i => match Nat.beq i id with | true => K .normal s' | false => K (.exit i) s'
      | e => K e s')
    (fun _ vc s K => ∃ I : Nat → AS → Prop, (∃ n s', I n s' ∧ Weak s s') ∧ ∀ n s', I n s' → vc s' fun e s'' => match e with
      | .normal => ∃ m s3, m < n ∧ I m s3 ∧ Weak s'' s3
      | e => K e s'')
    (fun _ _ _ _ _ _ _ _ => False)
    (fun id s K => K (.exit id) s)
    (fun _ vc s K => vc s fun e s' => match e with
      | .goto _ => False
      | e => K e s')
    (fun _ s K => K .normal s)
    (fun _ _ _ => False)
    (fun s K => K .ret s)
    (fun _ _ _ => False) c

def Runs (P : Program) (C : Ctx) (c : Code) (K : Exit → AS → Prop) (a : Act) (w : World) : Prop := c.wp P (fun e a' w' => ∃ s', K e s' ∧ St C s' a' w') a w

section
variable {P : Program} {T : Tab} {C : Ctx} {s : AS} {S : Nat → Prop} {σ : Nat → Value} {a : Act} {w : World}

theorem wanted_of {ops : Array Oper} {o : Oper} {j g : Nat} {want c : Bool} (hs : SR C s S σ a w) (hg : o.guard = some (j, want)) (hd : (ops[j]?).bind (·.dst) = some g) (hc : s.fr g = .pv (.bool c)) :
    Region.wanted o (yielded ops a.tmps) = (c == want) := decides_wanted hs (by unfold Decides; rw [hg]; exact ⟨g, hd, .inl ⟨c, hc, rfl⟩⟩)

theorem range'_cons {n k : Nat} (h : k < n) : (List.range n).drop k = k :: (List.range n).drop (k + 1) := by
  rw [List.drop_eq_getElem_cons (by simpa using h)]
  simp

theorem vcOps_sound (hT : TOK P T) {ops : Array Oper} {Q : Exit → Act → World → Prop} {K : AS → Prop} (hQ : ∀ a' w' s', K s' → St C s' a' w' → Q .normal a' w') :
    ∀ (rest : List Oper) (k : Nat) (s : AS) (a : Act) (w : World), ops.toList.drop k = rest → St C s a w → vcOps P T ops rest s K → wpOps P ops Q ((List.range ops.size).drop k) a w
  | [], k, s, a, w, hd, hst, h => by
    have hk : ops.size ≤ k := by have := List.drop_eq_nil_iff.1 hd; simpa using this
    rw [List.drop_eq_nil_iff.2 (by simpa using hk)]
    exact hQ a w s h hst
  | o :: r, k, s, a, w, hd, hst, h => by
    have hk : k < ops.size := by
      rcases Nat.lt_or_ge k ops.size with h1 | h1
      · exact h1
      · rw [List.drop_eq_nil_iff.2 (by simpa using h1)] at hd; cases hd
    have ho : ops[k]? = some o := by
      rw [← Array.getElem?_toList]
      have : (ops.toList.drop k)[0]? = some o := by rw [hd]; rfl
      rw [List.getElem?_drop] at this
      simpa using this
    have hd' : ops.toList.drop (k + 1) = r := by
      have : (ops.toList.drop k).drop 1 = r := by rw [hd]; rfl
      rw [List.drop_drop] at this
      simpa using this
    rw [range'_cons hk]
    simp only [wpOps, ho]
    have go : Region.wanted o (yielded ops a.tmps) = true → vcOp P T o s (fun s' => vcOps P T ops r s' K) →
        (if Region.wanted o (yielded ops a.tmps) = true then o.wp P a w (wpOps P ops Q ((List.range ops.size).drop (k + 1))) Q ∨ (o.asks P a w ∧ LetsOut Q) else wpOps P ops Q ((List.range ops.size).drop (k + 1)) (a.put o.dst undef) w) := by
      intro hw hv
      obtain ⟨S, σ, hs⟩ := hst
      rw [if_pos hw]
      refine .inl (Oper.wp_mono ?_ (vcOp_sound hT hs hv Q))
      rintro a' w' ⟨s', h1, h2⟩
      exact vcOps_sound hT hQ r (k + 1) s' a' w' hd' h2 h1
    rw [vcOps_cons] at h
    split at h
    · rename_i hg
      exact go (by unfold Region.wanted; rw [hg]) h
    · rename_i j want hg
      split at h
      · rename_i g hgd
        split at h
        · rename_i c hc
          obtain ⟨S, σ, hs⟩ := id hst
          have hw := wanted_of hs hg hgd hc
          by_cases e : c = want
          · have h1 := h.1 e
            rw [lit_eq (by rw [hc, e])] at h1
            exact go (by rw [hw, e]; simp) h1
          · have e' : c = !want := by cases c <;> cases want <;> simp_all
            have h1 := h.2 e'
            rw [lit_eq (by rw [hc, e'])] at h1
            rw [if_neg (by rw [hw]; simpa using e)]
            obtain ⟨s', h2, h3⟩ := hs.put (cv := undef) (.tup rfl (by simp)) h1
            exact vcOps_sound hT hQ r (k + 1) s' _ w hd' ⟨S, σ, h3⟩ h2
        · rename_i hc
          obtain ⟨S, σ, hs⟩ := id hst
          have hw : Region.wanted o (yielded ops a.tmps) = false := decides_wanted hs (by unfold Decides; rw [hg]; exact ⟨g, hgd, .inr ⟨hc, rfl⟩⟩)
          rw [if_neg (by rw [hw]; simp)]
          obtain ⟨s', h2, h3⟩ := hs.put (cv := undef) (.tup rfl (by simp)) h
          exact vcOps_sound hT hQ r (k + 1) s' _ w hd' ⟨S, σ, h3⟩ h2
        · exact h.elim
      · exact h.elim

theorem vcCode_sound (hT : TOK P T) (hm : P.follows .mixedOrders = true) : ∀ (c : Code) (s : AS) (K : Exit → AS → Prop) (a : Act) (w : World), St C s a w → vcCode P T c s K → Runs P C c K a w
  | .skip, s, K, a, w, hst, h => wp_skip ⟨s, h, hst⟩
  | .region id ops draw, s, K, a, w, hst, h => by
    cases draw with
    | false =>
      refine wp_region ?_
      have := vcOps_sound (Q := fun e a' w' => ∃ s', K e s' ∧ St C s' a' w') hT (fun a' w' s' h1 h2 => ⟨s', h1, h2⟩) ops.toList 0 s a w rfl hst h
      simpa using this
    | true =>
      obtain ⟨S, σ, hs⟩ := hst
      exact draw_sound hT hm hs h fun a' w' s' h1 h2 => ⟨s', h1, h2⟩
  | .seq x y, s, K, a, w, hst, h => by
    refine wp_seq (wp_mono (vcCode_sound hT hm x s _ a w hst h) ?_)
    rintro e a' w' ⟨s', h1, h2⟩
    cases e with
    | normal => exact vcCode_sound hT hm y s' K a' w' h2 h1
    | _ => exact ⟨s', h1, h2⟩
  | .cond c x y, s, K, a, w, hst, h => by
    replace h : (match s.ev c with | .one (.lf (.pv (.bool t))) => (t = true → vcCode P T x s K) ∧ (t = false → vcCode P T y s K) | _ => False) := h
    split at h
    · rename_i t hc
      obtain ⟨S, σ, hs⟩ := id hst
      have := hs.ev c
      rw [hc] at this
      exact wp_cond_split this.bool_inv (fun ht => vcCode_sound hT hm x s K a w hst (h.1 ht)) (fun ht => vcCode_sound hT hm y s K a w hst (h.2 ht))
    · exact h.elim
  | .block id c, s, K, a, w, hst, h => by
    refine wp_block (wp_mono (vcCode_sound hT hm c s _ a w hst h) ?_)
    rintro e a' w' ⟨s', h1, h2⟩
    cases e with
    | exit i =>
      simp only [Exit.inBlock]
      split
      · rename_i hi
        subst hi
        simp only [Nat.beq_refl] at h1
        exact ⟨s', h1, h2⟩
      · rename_i hi
        simp only [beq_ne hi] at h1
        exact ⟨s', h1, h2⟩
    | _ => exact ⟨s', h1, h2⟩
  | .exit id, s, K, a, w, hst, h => wp_exit ⟨s, h, hst⟩
  | .ret, s, K, a, w, hst, h => wp_ret ⟨s, h, hst⟩
  | .label l, s, K, a, w, hst, h => wp_label ⟨s, h, hst⟩
  | .loop c, s, K, a, w, hst, h => by
    obtain ⟨I, ⟨n, s1, hI, hw⟩, hround⟩ := h
    have hst1 := hw C a w hst
    suffices key : ∀ n a w, (∃ s, I n s ∧ St C s a w) → ∀ (b : Frame) (k : List Item) (cs : List Frame),
        ∃ e a' w', (∃ s', K e s' ∧ St C s' a' w') ∧ Arrives P (lone (b.at a (.code c :: .inLoop c :: k)) cs w) b k cs e a' w' by
      intro b k cs
      obtain ⟨e, a', w', hq, harr⟩ := key n a w ⟨s1, hI, hst1⟩ b k cs
      exact ⟨e, a', w', hq, .of_steps (.one step_loop) harr⟩
    intro n
    induction n using Nat.strongRecOn with
    | _ n ih =>
      rintro a w ⟨s, hI, hst⟩ b k cs
      obtain ⟨e, a₁, w₁, ⟨s', h1, h2⟩, harr⟩ := vcCode_sound hT hm c s _ a w hst (hround n s hI) b (.inLoop c :: k) cs
      cases e with
      | normal =>
        obtain ⟨m, s3, hlt, hI3, hw3⟩ := h1
        obtain ⟨e₂, a₂, w₂, hq₂, harr₂⟩ := ih m hlt a₁ w₁ ⟨s3, hI3, hw3 C a₁ w₁ h2⟩ b k cs
        exact ⟨e₂, a₂, w₂, hq₂, .of_steps (Steps.trans harr (.one step_inLoop)) harr₂⟩
      | exit id => exact ⟨_, a₁, w₁, ⟨s', h1, h2⟩, .pass (x := .inLoop c) rfl (fun _ _ => .inl (by simp)) harr⟩
      | goto l => exact ⟨_, a₁, w₁, ⟨s', h1, h2⟩, .pass (x := .inLoop c) rfl (fun _ _ => .inl (by simp)) harr⟩
      | ret => exact ⟨_, a₁, w₁, ⟨s', h1, h2⟩, .pass (x := .inLoop c) rfl (fun _ _ => .inl (by simp)) harr⟩
      | panic ch => exact ⟨_, a₁, w₁, ⟨s', h1, h2⟩, .pass (x := .inLoop c) rfl (fun _ _ => .inl (by simp)) harr⟩
      | outgrown => exact ⟨_, a₁, w₁, ⟨s', h1, h2⟩, .pass (x := .inLoop c) rfl (fun _ _ => .inl (by simp)) harr⟩
  | .scope c, s, K, a, w, hst, h => by
    refine wp_scope_straight (wp_mono (vcCode_sound hT hm c s _ a w hst h) ?_)
    rintro e a' w' ⟨s', h1, h2⟩
    cases e with
    | goto l => exact h1.elim
    | _ => exact ⟨s', h1, h2⟩
  | .goto _, _, _, _, _, _, h => h.elim
  | .rangeFunc _ _ _ _, _, _, _, _, _, h => h.elim
  | .refuse _, _, _, _, _, _, h => h.elim

end

/-- The code runs from the state to what K says. -/
structure Wlk (P : Program) (c : Code) (s : AS) (K : Exit → AS → Prop) : Prop where
  run : ∀ C a w, St C s a w → Runs P C c K a w
theorem sem_vc {P : Program} {T : Tab} (hT : TOK P T) (hm : P.follows .mixedOrders = true) {c : Code} {s : AS} {K : Exit → AS → Prop} (h : vcCode P T c s K) : Wlk P c s K := ⟨fun C a w hst => vcCode_sound hT hm c s K a w hst h⟩
/-- Meeting again behind the first part. -/
theorem sem_seq {P : Program} {x y : Code} {s : AS} {K : Exit → AS → Prop} (I : AS → Prop) (h1 : Wlk P x s fun e s' => match e with | .normal => ∃ s1, I s1 ∧ Weak s' s1 | e => K e s') (h2 : ∀ s1, I s1 → Wlk P y s1 K) : Wlk P (.seq x y) s K := by
  refine ⟨fun C a w hst => wp_seq (wp_mono (h1.run C a w hst) ?_)⟩
  rintro e a' w' ⟨s', h3, h4⟩
  cases e with
  | normal =>
    obtain ⟨s1, h5, h6⟩ := h3
    exact (h2 s1 h5).run C a' w' (h6 C a' w' h4)
  | _ => exact ⟨s', h3, h4⟩
theorem sem_weak {P : Program} {c : Code} {s s1 : AS} {K : Exit → AS → Prop} (hw : Weak s s1) (h : Wlk P c s1 K) : Wlk P c s K := ⟨fun C a w hst => h.run C a w (hw C a w hst)⟩

theorem sem_join {P : Program} {T : Tab} (hT : TOK P T) (hm : P.follows .mixedOrders = true) {x y z : Code} {s : AS} {K : Exit → AS → Prop} (I : AS → Prop) (h1 : vcCode P T (.seq x y) s fun e s' => match e with | .normal => ∃ s1, I s1 ∧ Weak s' s1 | e => K e s') (h2 : ∀ s1, I s1 → Wlk P z s1 K) : Wlk P (.seq x (.seq y z)) s K := by
  refine sem_seq (fun s1 => vcCode P T y s1 fun e s' => match e with | .normal => ∃ s1, I s1 ∧ Weak s' s1 | e => K e s') ?_ fun s1 hs1 => sem_seq I (sem_vc hT hm hs1) h2
  refine ⟨fun C a w hst => wp_mono (vcCode_sound hT hm x s _ a w hst h1) ?_⟩
  rintro e a' w' ⟨s', h3, h4⟩
  cases e with
  | normal => exact ⟨s', ⟨s', h3, fun _ _ _ h => h⟩, h4⟩
  | _ => exact ⟨s', h3, h4⟩

end Go.Proofs.Ytijjagkeaehhbaa.Eng
