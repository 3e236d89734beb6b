/- The engine: code. And what follows in this text; each statement bears its conditions. -/
import Derived.Test.YtijjagkeaehhbaaGreatKcd
import Derived.Scope
import Derived.IntWalk
/- The engine: code. -/
set_option linter.unusedSimpArgs false
set_option linter.unusedVariables false
namespace Go.Proofs.YtijjagkeaehhbaaGreat.Eng
open Go.RowKit (Below)

/-- A state that says less. -/
def Weak (s s' : AS) : Prop := ∀ C a w, St C s a w → St C s' a w

/-- Operations in the text's order. -/
noncomputable def vcOps (P : Program) (T : Tab) (ops : Array Oper) (l : List Oper) : AS → (AS → Prop) → Prop :=
  List.rec (motive := fun _ => AS → (AS → Prop) → Prop) (fun s K => K s)
    (fun o _ next s K => match o.guard with
      | none => vcOp P T o s fun s' => next s' K
      | some (j, want) => match (ops[j]?).bind (·.dst) with
        | some g => match s.fr g with
          | .one (.lf (.pv (.bool c))) => (c = want → vcOp P T o (s.lit g want) fun s' => next s' K) ∧ (c = !want → (s.lit g (!want)).put o.dst (.tup []) fun s' => next s' K)
          | .tup [] => s.put o.dst (.tup []) fun s' => next s' K
          | _ => False
        | none => False) l
theorem vcOps_cons (P : Program) (T : Tab) (ops : Array Oper) (o : Oper) (r : List Oper) (s : AS) (K : AS → Prop) : vcOps P T ops (o :: r) s K = (match o.guard with
    | none => vcOp P T o s fun s' => vcOps P T ops r s' K
    | some (j, want) => match (ops[j]?).bind (·.dst) with
      | some g => match s.fr g with
        | .one (.lf (.pv (.bool c))) => (c = want → vcOp P T o (s.lit g want) fun s' => vcOps P T ops r s' K) ∧ (c = !want → (s.lit g (!want)).put o.dst (.tup []) fun s' => vcOps P T ops r s' K)
        | .tup [] => s.put o.dst (.tup []) fun s' => vcOps P T ops r s' K
        | _ => False
      | none => False) := rfl

noncomputable def vcCode (P : Program) (T : Tab) (c : Code) : AS → (Exit → AS → Prop) → Prop :=
  Code.rec (motive := fun _ => AS → (Exit → AS → Prop) → Prop)
    (fun s K => K .normal s)
    (fun _ ops draw s K => match draw with
      | false => vcOps P T ops ops.toList s (K .normal)
      | true => vcRegionDraw P T ops s (K .normal))
    (fun _ _ va vb s K => va s fun e s' => match e with
      | .normal => vb s' K
      | e => K e s')
    (fun c _ _ vx vy s K => match s.ev c with
      | .one (.lf (.pv (.bool t))) => (t = true → vx s K) ∧ (t = false → vy s K)
      | _ => False)
    (fun id _ vc s K => vc s fun e s' => match e with
      | .exit i => match Nat.beq i id with | true => K .normal s' | false => K (.exit i) s'
      | e => K e s')
    (fun _ vc s K => ∃ I : Nat → AS → Prop, (∃ n s', I n s' ∧ Weak s s') ∧ ∀ n s', I n s' → vc s' fun e s'' => match e with
      | .normal => ∃ m s3, m < n ∧ I m s3 ∧ Weak s'' s3
      | e => K e s'')
    (fun _ _ _ _ _ _ _ _ => False)
    (fun id s K => K (.exit id) s)
    (fun _ vc s K => vc s fun e s' => match e with
      | .goto _ => False
      | e => K e s')
    (fun _ s K => K .normal s)
    (fun _ _ _ => False)
    (fun s K => K .ret s)
    (fun _ _ _ => False) c

def Runs (P : Program) (C : Ctx) (c : Code) (K : Exit → AS → Prop) (a : Act) (w : World) : Prop := c.wp P (fun e a' w' => ∃ s', K e s' ∧ St C s' a' w') a w

section
variable {P : Program} {T : Tab} {C : Ctx} {s : AS} {S : Nat → Prop} {σ : Nat → Value} {a : Act} {w : World}

theorem wanted_of {ops : Array Oper} {o : Oper} {j g : Nat} {want c : Bool} (hs : SR C s S σ a w) (hg : o.guard = some (j, want)) (hd : (ops[j]?).bind (·.dst) = some g) (hc : s.fr g = .pv (.bool c)) :
    Region.wanted o (yielded ops a.tmps) = (c == want) := decides_wanted hs (by unfold Decides; rw [hg]; exact ⟨g, hd, .inl ⟨c, hc, rfl⟩⟩)

theorem range'_cons {n k : Nat} (h : k < n) : (List.range n).drop k = k :: (List.range n).drop (k + 1) := by
  rw [List.drop_eq_getElem_cons (by simpa using h)]
  simp

theorem vcOps_sound (hT : TOK P T) {ops : Array Oper} {Q : Exit → Act → World → Prop} {K : AS → Prop} (hQ : ∀ a' w' s', K s' → St C s' a' w' → Q .normal a' w') :
    ∀ (rest : List Oper) (k : Nat) (s : AS) (a : Act) (w : World), ops.toList.drop k = rest → St C s a w → vcOps P T ops rest s K → wpOps P ops Q ((List.range ops.size).drop k) a w
  | [], k, s, a, w, hd, hst, h => by
    have hk : ops.size ≤ k := by have := List.drop_eq_nil_iff.1 hd; simpa using this
    rw [List.drop_eq_nil_iff.2 (by simpa using hk)]
    exact hQ a w s h hst
  | o :: r, k, s, a, w, hd, hst, h => by
    have hk : k < ops.size := by
      rcases Nat.lt_or_ge k ops.size with h1 | h1
      · exact h1
      · rw [List.drop_eq_nil_iff.2 (by simpa using h1)] at hd; cases hd
    have ho : ops[k]? = some o := by
      rw [← Array.getElem?_toList]
      have : (ops.toList.drop k)[0]? = some o := by rw [hd]; rfl
      rw [List.getElem?_drop] at this
      simpa using this
    have hd' : ops.toList.drop (k + 1) = r := by
      have : (ops.toList.drop k).drop 1 = r := by rw [hd]; rfl
      rw [List.drop_drop] at this
      simpa using this
    rw [range'_cons hk]
    simp only [wpOps, ho]
    have go : Region.wanted o (yielded ops a.tmps) = true → vcOp P T o s (fun s' => vcOps P T ops r s' K) →
        (if Region.wanted o (yielded ops a.tmps) = true then o.wp P a w (wpOps P ops Q ((List.range ops.size).drop (k + 1))) Q ∨ (o.asks P a w ∧ LetsOut Q) else wpOps P ops Q ((List.range ops.size).drop (k + 1)) (a.put o.dst undef) w) := by
      intro hw hv
      obtain ⟨S, σ, hs⟩ := hst
      rw [if_pos hw]
      refine .inl (Oper.wp_mono ?_ (vcOp_sound hT hs hv Q))
      rintro a' w' ⟨s', h1, h2⟩
      exact vcOps_sound hT hQ r (k + 1) s' a' w' hd' h2 h1
    rw [vcOps_cons] at h
    split at h
    · rename_i hg
      exact go (by unfold Region.wanted; rw [hg]) h
    · rename_i j want hg
      split at h
      · rename_i g hgd
        split at h
        · rename_i c hc
          obtain ⟨S, σ, hs⟩ := id hst
          have hw := wanted_of hs hg hgd hc
          by_cases e : c = want
          · have h1 := h.1 e
            rw [lit_eq (by rw [hc, e])] at h1
            exact go (by rw [hw, e]; simp) h1
          · have e' : c = !want := by cases c <;> cases want <;> simp_all
            have h1 := h.2 e'
            rw [lit_eq (by rw [hc, e'])] at h1
            rw [if_neg (by rw [hw]; simpa using e)]
            obtain ⟨s', h2, h3⟩ := hs.put (cv := undef) (.tup rfl (by simp)) h1
            exact vcOps_sound hT hQ r (k + 1) s' _ w hd' ⟨S, σ, h3⟩ h2
        · rename_i hc
          obtain ⟨S, σ, hs⟩ := id hst
          have hw : Region.wanted o (yielded ops a.tmps) = false := decides_wanted hs (by unfold Decides; rw [hg]; exact ⟨g, hgd, .inr ⟨hc, rfl⟩⟩)
          rw [if_neg (by rw [hw]; simp)]
          obtain ⟨s', h2, h3⟩ := hs.put (cv := undef) (.tup rfl (by simp)) h
          exact vcOps_sound hT hQ r (k + 1) s' _ w hd' ⟨S, σ, h3⟩ h2
        · exact h.elim
      · exact h.elim

theorem vcCode_sound (hT : TOK P T) (hm : P.follows .mixedOrders = true) : ∀ (c : Code) (s : AS) (K : Exit → AS → Prop) (a : Act) (w : World), St C s a w → vcCode P T c s K → Runs P C c K a w
  | .skip, s, K, a, w, hst, h => wp_skip ⟨s, h, hst⟩
  | .region id ops draw, s, K, a, w, hst, h => by
    cases draw with
    | false =>
      refine wp_region ?_
      have := vcOps_sound (Q := fun e a' w' => ∃ s', K e s' ∧ St C s' a' w') hT (fun a' w' s' h1 h2 => ⟨s', h1, h2⟩) ops.toList 0 s a w rfl hst h
      simpa using this
    | true =>
      obtain ⟨S, σ, hs⟩ := hst
      exact draw_sound hT hm hs h fun a' w' s' h1 h2 => ⟨s', h1, h2⟩
  | .seq x y, s, K, a, w, hst, h => by
    refine wp_seq (wp_mono (vcCode_sound hT hm x s _ a w hst h) ?_)
    rintro e a' w' ⟨s', h1, h2⟩
    cases e with
    | normal => exact vcCode_sound hT hm y s' K a' w' h2 h1
    | _ => exact ⟨s', h1, h2⟩
  | .cond c x y, s, K, a, w, hst, h => by
    replace h : (match s.ev c with | .one (.lf (.pv (.bool t))) => (t = true → vcCode P T x s K) ∧ (t = false → vcCode P T y s K) | _ => False) := h
    split at h
    · rename_i t hc
      obtain ⟨S, σ, hs⟩ := id hst
      have := hs.ev c
      rw [hc] at this
      exact wp_cond_split this.bool_inv (fun ht => vcCode_sound hT hm x s K a w hst (h.1 ht)) (fun ht => vcCode_sound hT hm y s K a w hst (h.2 ht))
    · exact h.elim
  | .block id c, s, K, a, w, hst, h => by
    refine wp_block (wp_mono (vcCode_sound hT hm c s _ a w hst h) ?_)
    rintro e a' w' ⟨s', h1, h2⟩
    cases e with
    | exit i =>
      simp only [Exit.inBlock]
      split
      · rename_i hi
        subst hi
        simp only [Nat.beq_refl] at h1
        exact ⟨s', h1, h2⟩
      · rename_i hi
        simp only [beq_ne hi] at h1
        exact ⟨s', h1, h2⟩
    | _ => exact ⟨s', h1, h2⟩
  | .exit id, s, K, a, w, hst, h => wp_exit ⟨s, h, hst⟩
  | .ret, s, K, a, w, hst, h => wp_ret ⟨s, h, hst⟩
  | .label l, s, K, a, w, hst, h => wp_label ⟨s, h, hst⟩
  | .loop c, s, K, a, w, hst, h => by
    obtain ⟨I, ⟨n, s1, hI, hw⟩, hround⟩ := h
    have hst1 := hw C a w hst
    suffices key : ∀ n a w, (∃ s, I n s ∧ St C s a w) → ∀ (b : Frame) (k : List Item) (cs : List Frame),
        ∃ e a' w', (∃ s', K e s' ∧ St C s' a' w') ∧ Arrives P (lone (b.at a (.code c :: .inLoop c :: k)) cs w) b k cs e a' w' by
      intro b k cs
      obtain ⟨e, a', w', hq, harr⟩ := key n a w ⟨s1, hI, hst1⟩ b k cs
      exact ⟨e, a', w', hq, .of_steps (.one step_loop) harr⟩
    intro n
    induction n using Nat.strongRecOn with
    | _ n ih =>
      rintro a w ⟨s, hI, hst⟩ b k cs
      obtain ⟨e, a₁, w₁, ⟨s', h1, h2⟩, harr⟩ := vcCode_sound hT hm c s _ a w hst (hround n s hI) b (.inLoop c :: k) cs
      cases e with
      | normal =>
        obtain ⟨m, s3, hlt, hI3, hw3⟩ := h1
        obtain ⟨e₂, a₂, w₂, hq₂, harr₂⟩ := ih m hlt a₁ w₁ ⟨s3, hI3, hw3 C a₁ w₁ h2⟩ b k cs
        exact ⟨e₂, a₂, w₂, hq₂, .of_steps (Steps.trans harr (.one step_inLoop)) harr₂⟩
      | exit id => exact ⟨_, a₁, w₁, ⟨s', h1, h2⟩, .pass (x := .inLoop c) rfl (fun _ _ => .inl (by simp)) harr⟩
      | goto l => exact ⟨_, a₁, w₁, ⟨s', h1, h2⟩, .pass (x := .inLoop c) rfl (fun _ _ => .inl (by simp)) harr⟩
      | ret => exact ⟨_, a₁, w₁, ⟨s', h1, h2⟩, .pass (x := .inLoop c) rfl (fun _ _ => .inl (by simp)) harr⟩
      | panic ch => exact ⟨_, a₁, w₁, ⟨s', h1, h2⟩, .pass (x := .inLoop c) rfl (fun _ _ => .inl (by simp)) harr⟩
      | outgrown => exact ⟨_, a₁, w₁, ⟨s', h1, h2⟩, .pass (x := .inLoop c) rfl (fun _ _ => .inl (by simp)) harr⟩
  | .scope c, s, K, a, w, hst, h => by
    refine wp_scope_straight (wp_mono (vcCode_sound hT hm c s _ a w hst h) ?_)
    rintro e a' w' ⟨s', h1, h2⟩
    cases e with
    | goto l => exact h1.elim
    | _ => exact ⟨s', h1, h2⟩
  | .goto _, _, _, _, _, _, h => h.elim
  | .rangeFunc _ _ _ _, _, _, _, _, _, h => h.elim
  | .refuse _, _, _, _, _, _, h => h.elim

end

/-- The code runs from the state to what K says. -/
structure Wlk (P : Program) (c : Code) (s : AS) (K : Exit → AS → Prop) : Prop where
  run : ∀ C a w, St C s a w → Runs P C c K a w
theorem sem_vc {P : Program} {T : Tab} (hT : TOK P T) (hm : P.follows .mixedOrders = true) {c : Code} {s : AS} {K : Exit → AS → Prop} (h : vcCode P T c s K) : Wlk P c s K := ⟨fun C a w hst => vcCode_sound hT hm c s K a w hst h⟩
/-- Meeting again behind the first part. -/
theorem sem_seq {P : Program} {x y : Code} {s : AS} {K : Exit → AS → Prop} (I : AS → Prop) (h1 : Wlk P x s fun e s' => match e with | .normal => ∃ s1, I s1 ∧ Weak s' s1 | e => K e s') (h2 : ∀ s1, I s1 → Wlk P y s1 K) : Wlk P (.seq x y) s K := by
  refine ⟨fun C a w hst => wp_seq (wp_mono (h1.run C a w hst) ?_)⟩
  rintro e a' w' ⟨s', h3, h4⟩
  cases e with
  | normal =>
    obtain ⟨s1, h5, h6⟩ := h3
    exact (h2 s1 h5).run C a' w' (h6 C a' w' h4)
  | _ => exact ⟨s', h3, h4⟩
theorem sem_weak {P : Program} {c : Code} {s s1 : AS} {K : Exit → AS → Prop} (hw : Weak s s1) (h : Wlk P c s1 K) : Wlk P c s K := ⟨fun C a w hst => h.run C a w (hw C a w hst)⟩

theorem sem_join {P : Program} {T : Tab} (hT : TOK P T) (hm : P.follows .mixedOrders = true) {x y z : Code} {s : AS} {K : Exit → AS → Prop} (I : AS → Prop) (h1 : vcCode P T (.seq x y) s fun e s' => match e with | .normal => ∃ s1, I s1 ∧ Weak s' s1 | e => K e s') (h2 : ∀ s1, I s1 → Wlk P z s1 K) : Wlk P (.seq x (.seq y z)) s K := by
  refine sem_seq (fun s1 => vcCode P T y s1 fun e s' => match e with | .normal => ∃ s1, I s1 ∧ Weak s' s1 | e => K e s') ?_ fun s1 hs1 => sem_seq I (sem_vc hT hm hs1) h2
  refine ⟨fun C a w hst => wp_mono (vcCode_sound hT hm x s _ a w hst h1) ?_⟩
  rintro e a' w' ⟨s', h3, h4⟩
  cases e with
  | normal => exact ⟨s', ⟨s', h3, fun _ _ _ h => h⟩, h4⟩
  | _ => exact ⟨s', h3, h4⟩

end Go.Proofs.YtijjagkeaehhbaaGreat.Eng

/- The engine: results; a function of values by its body. -/
set_option linter.unusedSimpArgs false
set_option linter.unusedVariables false
namespace Go.Proofs.YtijjagkeaehhbaaGreat.Eng
open Go.RowKit (Below)

def resOne (T : Tab) (s : AS) : ResultVar → Option RV
  | .tmp t => match s.fr t with | .one r => some r | .tup _ => none
  | .cell x t => match T t, s.fr x with
    | some i, .one (.lf (.ptr id off)) => match s.hp id with
      | some (.box _ cs) => match ofCells i.agg cs off i.size with | some (.one r) => some r | _ => none
      | _ => none
    | _, _ => none
def resAll (T : Tab) (s : AS) : List ResultVar → Option (List RV)
  | [] => some []
  | x :: r => match resOne T s x, resAll T s r with | some v, some l => some (v :: l) | _, _ => none
def resultsA (T : Tab) (rs : List ResultVar) (s : AS) : Option AV :=
  match resAll T s rs with
  | some [r] => some (.one r)
  | some l => some (.tup l)
  | none => none

/-- Values by themselves: what lies behind a slice of the call's own; names below m stay names. -/
def belowAll (m : Nat) : List Nat → Bool
  | [] => true
  | i :: r => Nat.blt i m && belowAll m r
def frzL (m : Nat) (hp : Nat → Option AObj) : LV → Option LV
  | .pv p => some (.pv p)
  | .any => some .any
  | .sl id => match Nat.blt id m with
    | true => some (.sl id)
    | false => match hp id with | some (.row _ sz rows) => some (.pv (.vs sz rows)) | _ => none
  | x => match belowAll m x.ids with | true => some x | false => none
def frzLs (m : Nat) (hp : Nat → Option AObj) : List LV → Option (List LV)
  | [] => some []
  | x :: r => match frzL m hp x, frzLs m hp r with | some p, some l => some (p :: l) | _, _ => none
def frzR (m : Nat) (hp : Nat → Option AObj) : RV → Option RV
  | .lf x => match frzL m hp x with | some p => some (.lf p) | none => none
  | .agg xs => match frzLs m hp xs with | some l => some (.agg l) | none => none
def frzRs (m : Nat) (hp : Nat → Option AObj) : List RV → Option (List RV)
  | [] => some []
  | x :: r => match frzR m hp x, frzRs m hp r with | some p, some l => some (p :: l) | _, _ => none
def frzA (m : Nat) (hp : Nat → Option AObj) : AV → Option AV
  | .one r => match frzR m hp r with | some r => some (.one r) | none => none
  | .tup rs => match frzRs m hp rs with | some l => some (.tup l) | none => none

/-- What a body ends with. -/
def Ends (T : Tab) (fn : Func) (R : AV → Prop) (e : Exit) (s : AS) : Prop :=
  (match e with | .normal => True | .ret => True | _ => False) ∧ match resultsA T fn.results.toList s with
    | some v => match frzA 0 s.hp v with | some r => R r | none => False
    | none => False

def AS.start (args : List AV) (n : Nat) : AS := { fr := fun i => match args[i]? with | some v => v | none => .any, hp := fun _ => none, nx := 0, n := n, n0 := 0, c0 := fun _ => false }

section
variable {P : Program} {T : Tab} {C : Ctx} {s : AS} {S : Nat → Prop} {σ : Nat → Value} {a : Act} {w : World}

def readRes (tmps : Array Value) : ResultVar → Sem Value
  | .tmp t => pure (tmps.getD t undef)
  | .cell y t => do loadVar t (← asAddr (tmps.getD y undef))

theorem resOne_sound (hT : TOK P T) (hs : SR C s S σ a w) {x : ResultVar} {r : RV} (h : resOne T s x = some r) :
    ∃ v, (readRes a.tmps x).run P w = .ok v w ∧ RVR w S σ s.nx r v := by
  cases x with
  | tmp t =>
    simp only [resOne] at h
    have hv := hs.fr t
    split at h
    · rename_i r' hr
      rw [hr] at hv
      simp only [Option.some.injEq] at h
      subst h
      cases hv with
      | one hv => exact ⟨_, rfl, hv⟩
    · cases h
  | cell y t =>
    simp only [resOne] at h
    split at h
    · rename_i i id off hi hy
      split at h
      · rename_i t' cs hid
        split at h
        · rename_i r' hv
          simp only [Option.some.injEq] at h
          subst h
          obtain ⟨j, d, z, ht⟩ := typeOk (hT t i hi)
          obtain ⟨_, b, hb, he⟩ := (hy ▸ hs.fr y).ptr_inv
          obtain ⟨b', vs, h1, h2, h3⟩ := hs.hp.obj id _ hid
          rw [hb] at h1
          obtain rfl : b = b' := by simpa using h1
          obtain ⟨cv, hr, hav⟩ := load_cells ht (box_cells h2 h3) hv
          rw [Nat.zero_add] at hr
          simp only [Instr.loadAt, Instr.sureAddr, Sem.run_bind, Sem.run_pure, Result.andThen_ok] at hr
          refine ⟨cv, ?_, ?_⟩
          · have : a.tmps.getD y undef = .pointer (some ⟨b, off, none⟩) := he
            simp only [readRes, this, asAddr, Sem.run_bind, Sem.run_pure, Result.andThen_ok]
            exact hr
          · cases hav with | one hh => exact hh
        · cases h
      · cases h
    · cases h

theorem resAll_sound (hT : TOK P T) (hs : SR C s S σ a w) : ∀ (xs : List ResultVar) (rs : List RV), resAll T s xs = some rs →
    ∃ vs : List Value, (xs.mapM (readRes a.tmps)).run P w = .ok vs w ∧ vs.length = rs.length ∧ ∀ (i : Nat) r, rs[i]? = some r → ∃ v, vs[i]? = some v ∧ RVR w S σ s.nx r v
  | [], rs, h => by
    simp only [resAll, Option.some.injEq] at h
    subst h
    exact ⟨[], by simp, rfl, by simp⟩
  | x :: xs, rs, h => by
    simp only [resAll] at h
    split at h
    · rename_i v l h1 h2
      simp only [Option.some.injEq] at h
      subst h
      obtain ⟨cv, hr, hv⟩ := resOne_sound hT hs h1
      obtain ⟨vs, hrs, hn, hvs⟩ := resAll_sound hT hs xs l h2
      refine ⟨cv :: vs, ?_, by simp [hn], fun i r hi => ?_⟩
      · rw [List.mapM_cons]
        simp only [Sem.run_bind, hr, Result.andThen_ok, hrs, Sem.run_pure]
      · match i with
        | 0 => simp only [List.getElem?_cons_zero, Option.some.injEq] at hi; subst hi; exact ⟨cv, rfl, hv⟩
        | i + 1 => simpa using hvs i r (by simpa using hi)
    · cases h

theorem results_sound (hT : TOK P T) (hs : SR C s S σ a w) {fn : Func} {v : AV} (h : resultsA T fn.results.toList s = some v) : ∃ cv, (results fn a.tmps).run P w = .ok cv w ∧ AVR w S σ s.nx v cv := by
  unfold resultsA at h
  have key : ∀ rs, resAll T s fn.results.toList = some rs → ∃ vs : Array Value, (results fn a.tmps).run P w = .ok (if h : vs.size = 1 then vs[0] else .tuple vs) w ∧ vs.size = rs.length ∧ ∀ (i : Nat) r, rs[i]? = some r → ∃ v, vs[i]? = some v ∧ RVR w S σ s.nx r v := by
    intro rs hrs
    obtain ⟨vs, h1, h2, h3⟩ := resAll_sound hT hs _ _ hrs
    refine ⟨vs.toArray, ?_, by simpa using h2, fun i r hi => by simpa using h3 i r hi⟩
    have hfun : (fun x : ResultVar => (match x with | .tmp t => (pure (a.tmps.getD t undef) : Sem Value) | .cell y t => do loadVar t (← asAddr (a.tmps.getD y undef)))) = readRes a.tmps := by
      funext x
      cases x <;> rfl
    have : results fn a.tmps = (do let vs ← fn.results.mapM (readRes a.tmps); pure (if h : vs.size = 1 then vs[0] else .tuple vs) : Sem Value) := by
      unfold results
      congr 1
    rw [this, Array.mapM_eq_mapM_toList]
    simp only [map_eq_pure_bind, bind_assoc, pure_bind, Sem.run_bind, h1, Result.andThen_ok, Sem.run_pure]
  split at h
  · rename_i r hr
    simp only [Option.some.injEq] at h
    subst h
    obtain ⟨vs, h1, h2, h3⟩ := key _ hr
    obtain ⟨cv, h4, h5⟩ := h3 0 r rfl
    refine ⟨_, h1, ?_⟩
    have : vs.size = 1 := h2
    rw [dif_pos this]
    obtain ⟨hlt, he⟩ := Array.getElem?_eq_some_iff.1 h4
    rw [he]
    exact .one h5
  · rename_i l hne hl
    simp only [Option.some.injEq] at h
    subst h
    obtain ⟨vs, h1, h2, h3⟩ := key _ hl
    refine ⟨_, h1, ?_⟩
    rw [dif_neg]
    · exact .tup h2 h3
    · intro h4
      rw [h2] at h4
      match l, h4, hne with
      | [r], _, hne => exact hne r rfl
  · cases h

theorem belowAll_iff {m : Nat} : ∀ {l : List Nat}, belowAll m l = true ↔ ∀ i ∈ l, i < m
  | [] => by simp [belowAll]
  | i :: r => by simp only [belowAll, Bool.and_eq_true, List.mem_cons, forall_eq_or_imp, belowAll_iff (l := r), Nat.blt_eq]

section
variable {m : Nat} {S' : Nat → Prop}

/-- Which blocks may be read afterwards. -/
structure Grows (s : AS) (S S' : Nat → Prop) (σ : Nat → Value) (m : Nat) : Prop where
  le : ∀ b, S b → S' b
  obj : ∀ id o b, m ≤ id → s.hp id = some o → blk (σ id) = some b → S' b

theorem frzL_sound (hs : SR C s S σ a w) (hg : Grows s S S' σ m) {x : LV} {v : Value} (hv : LVR w S σ s.nx x v) {p : LV} (h : frzL m s.hp x = some p) : LVR w S' σ m p v := by
  have mono : ∀ {p v}, PVR w S p v → PVR w S' p v := fun h => h.mono (fun _ _ => rfl) hg.le
  unfold frzL at h
  split at h
  · simp only [Option.some.injEq] at h
    subst h
    cases hv with | pv h => exact .pv (mono h)
  · simp only [Option.some.injEq] at h
    subst h
    cases hv with | any _ h => exact .any _ h
  · rename_i id
    split at h
    · rename_i hlt
      simp only [Option.some.injEq] at h
      subst h
      rw [Nat.blt_eq] at hlt
      cases hv with | sl _ h1 => exact .sl hlt h1
    · rename_i hlt
      have hge : m ≤ id := by
        rcases Nat.lt_or_ge id m with h1 | h1
        · have : Nat.blt id m = true := by rw [Nat.blt_eq]; exact h1
          rw [this] at hlt; cases hlt
        · exact h1
      split at h
      · rename_i t sz rows hid
        simp only [Option.some.injEq] at h
        subst h
        refine .pv ?_
        cases hv with
        | sl hlt _ =>
          obtain ⟨hl, xs, how, h1, hx⟩ := row_open hs hid
          rcases how.2 with ⟨h4, h5⟩ | ⟨g, cap, cur, h4, _, hh, hle, hm, _, htake⟩
          · have hr : rows = [] := List.eq_nil_of_length_eq_zero h5
            subst hr
            rw [h4]
            exact .vs sz [] none 0 (fun _ _ => undef) (Nat.le_refl _) (by omega) (fun _ => rfl) (by simp) (fun h => absurd rfl h) (by simp) (by simp)
          · have hown := hg.obj id _ g hge hid (by rw [h4]; rfl)
            rw [h4]
            refine .vs sz rows (some ⟨g, 0, none⟩) cap (fun i j => (xs[i * sz + j]?).getD undef) hle (by unfold maxLen at hm; exact hm) (fun h => by cases h) hl (fun _ => ⟨g, 0, rfl, hown, fun i j hi hj => ?_⟩) (fun i j hi hj => ?_) (fun i j r p hi hj => ?_)
            · have hlt : i * sz + j < xs.length := by rw [how.1]; exact flat_lt hi hj
              have hget : xs[i * sz + j]? = some xs[i * sz + j] := List.getElem?_eq_getElem hlt
              simp only [hget, Option.getD_some]
              have := how.cells (g := g) (by rw [h4]; rfl) _ _ hget
              simpa [add_lit] using this
            · have hlt : i * sz + j < xs.length := by rw [how.1]; exact flat_lt hi hj
              rw [List.getElem?_eq_getElem hlt]
              exact h1 _ (List.getElem_mem hlt)
            · obtain ⟨v, h2, h3⟩ := hx i j r p hi hj
              rw [h2]
              exact mono h3
      · cases h
  · split at h
    · rename_i hb
      simp only [Option.some.injEq] at h
      subst h
      exact hv.away (fun _ _ => rfl) hg.le fun i hi => ⟨belowAll_iff.1 hb i hi, rfl⟩
    · cases h

theorem frzLs_sound (hs : SR C s S σ a w) (hg : Grows s S S' σ m) : ∀ (xs ps : List LV), frzLs m s.hp xs = some ps → ps.length = xs.length ∧ ∀ (i : Nat) x v, xs[i]? = some x → LVR w S σ s.nx x v → ∃ p, ps[i]? = some p ∧ LVR w S' σ m p v
  | [], ps, h => by simp only [frzLs, Option.some.injEq] at h; subst h; exact ⟨rfl, by simp⟩
  | x :: r, ps, h => by
    simp only [frzLs] at h
    split at h
    · rename_i p l h1 h2
      simp only [Option.some.injEq] at h
      subst h
      obtain ⟨h3, h4⟩ := frzLs_sound hs hg r l h2
      refine ⟨by simp [h3], fun i y v hy hv => ?_⟩
      match i with
      | 0 => simp only [List.getElem?_cons_zero, Option.some.injEq] at hy; subst hy; exact ⟨p, rfl, frzL_sound hs hg hv h1⟩
      | i + 1 => simpa using h4 i y v (by simpa using hy) hv
    · cases h
theorem frzLs_ls (hs : SR C s S σ a w) (hg : Grows s S S' σ m) {xs l : List LV} {vs : Array Value} (hv : LsR w S σ s.nx xs vs) (hl : frzLs m s.hp xs = some l) : LsR w S' σ m l vs := by
  obtain ⟨h1, h2⟩ := frzLs_sound hs hg xs l hl
  refine ⟨by rw [h1]; exact hv.1, fun i x hx => ?_⟩
  have hlt : i < xs.length := by rw [← h1]; exact (List.getElem?_eq_some_iff.1 hx).1
  obtain ⟨v, h3, h4⟩ := hv.2 i _ (List.getElem?_eq_getElem hlt)
  obtain ⟨p', h5, h6⟩ := h2 i _ v (List.getElem?_eq_getElem hlt) h4
  rw [hx] at h5
  simp only [Option.some.injEq] at h5
  subst h5
  exact ⟨v, h3, h6⟩

theorem frzR_sound (hs : SR C s S σ a w) (hg : Grows s S S' σ m) {x r : RV} {v : Value} (hv : RVR w S σ s.nx x v) (h : frzR m s.hp x = some r) : RVR w S' σ m r v := by
  unfold frzR at h
  split at h
  · split at h
    · rename_i p hp
      simp only [Option.some.injEq] at h
      subst h
      cases hv with
      | any => simp only [frzL, Option.some.injEq] at hp; subst hp; exact .any v
      | lf hv => exact .lf (frzL_sound hs hg hv hp)
    · cases h
  · split at h
    · rename_i l hl
      simp only [Option.some.injEq] at h
      subst h
      cases hv with | agg hv => exact .agg (frzLs_ls hs hg hv hl)
    · cases h

theorem frzRs_sound (hs : SR C s S σ a w) (hg : Grows s S S' σ m) : ∀ (xs ps : List RV), frzRs m s.hp xs = some ps → ps.length = xs.length ∧ ∀ (i : Nat) x v, xs[i]? = some x → RVR w S σ s.nx x v → ∃ p, ps[i]? = some p ∧ RVR w S' σ m p v
  | [], ps, h => by simp only [frzRs, Option.some.injEq] at h; subst h; exact ⟨rfl, by simp⟩
  | x :: r, ps, h => by
    simp only [frzRs] at h
    split at h
    · rename_i p l h1 h2
      simp only [Option.some.injEq] at h
      subst h
      obtain ⟨h3, h4⟩ := frzRs_sound hs hg r l h2
      refine ⟨by simp [h3], fun i y v hy hv => ?_⟩
      match i with
      | 0 => simp only [List.getElem?_cons_zero, Option.some.injEq] at hy; subst hy; exact ⟨p, rfl, frzR_sound hs hg hv h1⟩
      | i + 1 => simpa using h4 i y v (by simpa using hy) hv
    · cases h

theorem frzA_sound (hs : SR C s S σ a w) (hg : Grows s S S' σ m) {x r : AV} {v : Value} (hv : AVR w S σ s.nx x v) (h : frzA m s.hp x = some r) : AVR w S' σ m r v := by
  unfold frzA at h
  split at h
  · split at h
    · rename_i hr
      simp only [Option.some.injEq] at h
      subst h
      cases hv with | one hv => exact .one (frzR_sound hs hg hv hr)
    · cases h
  · rename_i rs
    split at h
    · rename_i l hl
      simp only [Option.some.injEq] at h
      subst h
      cases hv with
      | @tup rs vs hn hv =>
        obtain ⟨h1, h2⟩ := frzRs_sound hs hg rs l hl
        refine .tup (by rw [h1]; exact hn) fun i r hr => ?_
        have hlt : i < rs.length := by rw [← h1]; exact (List.getElem?_eq_some_iff.1 hr).1
        obtain ⟨v, h3, h4⟩ := hv i _ (List.getElem?_eq_getElem hlt)
        obtain ⟨p', h5, h6⟩ := h2 i _ v (List.getElem?_eq_getElem hlt) h4
        rw [hr] at h5
        simp only [Option.some.injEq] at h5
        subst h5
        exact ⟨v, h3, h6⟩
    · cases h
end

/-- A function of values, told by what its result is like. -/
def AFunR (P : Program) (g : Nat) (args : List AV) (R : AV → Prop) : Prop :=
  Ent P g ∧ ∀ (w : World) (S : Nat → Prop), (∀ b, S b → b < w.heap.size) → ∀ vs : Array Value, vs.size = args.length → (∀ (i : Nat) (x : AV), args[i]? = some x → ∃ v, vs[i]? = some v ∧ AVR w S (fun _ => undef) 0 x v) →
    Calls P g vs w fun e w' => ∃ v r, R r ∧ e = .returned v ∧ Below w.heap.size w w' ∧ AVR w' (fun b => S b ∨ (w.heap.size ≤ b ∧ b < w'.heap.size)) (fun _ => undef) 0 r v
theorem AFunR.afun {g : Nat} {args : List AV} {r : AV} (h : AFunR P g args (· = r)) : AFun P g args r :=
  ⟨h.1, fun w S hS vs hn hv => (h.2 w S hS vs hn hv).mono fun e w' ⟨v, r', e1, e2, e3, e4⟩ => by subst e1; exact ⟨v, e2, e3, e4⟩⟩
theorem AFunR.mono {g : Nat} {args : List AV} {R R' : AV → Prop} (h : AFunR P g args R) (hr : ∀ r, R r → R' r) : AFunR P g args R' :=
  ⟨h.1, fun w S hS vs hn hv => (h.2 w S hS vs hn hv).mono fun e w' ⟨v, r', e1, e2, e3, e4⟩ => ⟨v, r', hr _ e1, e2, e3, e4⟩⟩

theorem start_sr {w : World} {S : Nat → Prop} {args : List AV} {n : Nat} {vs : Array Value} (hS : ∀ b, S b → b < w.heap.size) (hn : vs.size = args.length) (hle : args.length ≤ n) (hv : ∀ (i : Nat) (x : AV), args[i]? = some x → ∃ v, vs[i]? = some v ∧ AVR w S (fun _ => undef) 0 x v) :
    SR ⟨w, S, fun _ => False, fun _ => undef⟩ (AS.start args n) S (fun _ => undef) { tmps := vs ++ Array.replicate (n - vs.size) undef, defers := [] } w := by
  refine ⟨by simp [AS.start]; omega, rfl, fun i => ?_, ⟨fun _ _ h => (by simp [AS.start] at h), fun _ _ h => (by simp [AS.start] at h), fun _ _ _ h => (by simp [AS.start] at h), fun _ _ _ h => (by simp [AS.start] at h), fun _ _ _ _ _ h => (by simp [AS.start] at h)⟩, hS, fun _ h => h, ⟨rfl, rfl, rfl, Nat.le_refl _, fun _ _ _ => rfl⟩, Nat.le_refl _, fun id h => by simp [AS.start] at h, fun b h => .inl h⟩
  simp only [AS.start]
  cases hx : args[i]? with
  | none => exact .one (.any _)
  | some x =>
    obtain ⟨v, h1, h2⟩ := hv i x hx
    have hlt : i < vs.size := (Array.getElem?_eq_some_iff.1 h1).1
    simp only [Array.getD_eq_getD_getElem?, Array.getElem?_append_left hlt, h1, Option.getD_some]
    exact h2

theorem afun_sem (hT : TOK P T) {g : Nat} {fn : Func} {c : Code} (hf : P.funcs[g]? = some fn) (hb : fn.body = some c) (hent : Ent P g) {args : List AV} {R : AV → Prop} (hle : args.length ≤ fn.ntmps)
    (h : Wlk P c (AS.start args fn.ntmps) (Ends T fn R)) : AFunR P g args R := by
  refine ⟨hent, fun w S hS vs hn hv => ?_⟩
  refine calls_of_wp hf hb (wp_mono (h.run _ _ w ⟨S, _, start_sr hS hn hle hv⟩) ?_)
  rintro e a' w' ⟨s', ⟨h1, h2⟩, S', σ', hs'⟩
  have fin : a'.defers = [] ∧ ∃ v, (results fn a'.tmps).run P w' = .ok v w' ∧ ∃ v' r, R r ∧ Ending.returned v = .returned v' ∧ Below w.heap.size w w' ∧ AVR w' (fun b => S b ∨ (w.heap.size ≤ b ∧ b < w'.heap.size)) (fun _ => undef) 0 r v' := by
    refine ⟨hs'.defers, ?_⟩
    split at h2
    · rename_i v hv
      split at h2
      · rename_i r hr
        obtain ⟨cv, h3, h4⟩ := results_sound hT hs' hv
        refine ⟨cv, h3, cv, r, h2, rfl, ?_, ?_⟩
        · have := hs'.keep
          exact ⟨this.os, this.tape, this.output, this.size, fun k hk => this.block k hk (fun h => h)⟩
        · have hg : Grows s' S' (fun b => S b ∨ (w.heap.size ≤ b ∧ b < w'.heap.size)) σ' 0 := by
            refine ⟨fun b hb => ?_, fun id o b _ ho hb => ?_⟩
            · rcases hs'.up b hb with h5 | h5 | h5
              · exact .inl h5
              · exact .inr ⟨h5, hs'.lt b hb⟩
              · exact h5.elim
            · exact .inr ⟨(hs'.hp.own id o b ho hb).resolve_left (fun h => h), blk_lt (hs'.hp.obj id o ho) hb⟩
          exact (frzA_sound hs' hg h4 hr).mono (fun _ _ => rfl) (fun b hb => hb) (fun i hi => absurd hi (Nat.not_lt_zero _)) (Nat.le_refl _)
      · exact h2.elim
    · exact h2.elim
  cases e with
  | normal => exact fin
  | ret => exact fin
  | _ => exact h1.elim

theorem afun_body (hT : TOK P T) (hm : P.follows .mixedOrders = true) {g : Nat} {fn : Func} {c : Code} (hf : P.funcs[g]? = some fn) (hb : fn.body = some c) (hent : Ent P g) {args : List AV} {R : AV → Prop} (hle : args.length ≤ fn.ntmps)
    (h : vcCode P T c (AS.start args fn.ntmps) (Ends T fn R)) : AFunR P g args R := afun_sem hT hf hb hent hle (sem_vc hT hm h)

end
end Go.Proofs.YtijjagkeaehhbaaGreat.Eng

/- The engine: states that say less; small ends. -/
set_option linter.unusedSimpArgs false
set_option linter.unusedVariables false
namespace Go.Proofs.YtijjagkeaehhbaaGreat.Eng
open Go.RowKit (Below)

theorem ent_of {P : Program} {g : Nat} {fn : Func} (hf : P.funcs[g]? = some fn) (hname : (fn.name == "runtime.NumGoroutine") = false) (hb : fn.body.isSome = true) : Ent P g := by
  intro args w
  have h1 : fn.name ≠ "runtime.NumGoroutine" := by simpa using hname
  obtain ⟨c, hc⟩ := Option.isSome_iff_exists.1 hb
  simp [callFunc, hf, h1, hc]
theorem ok_op {s : AS} {id : Nat} {o : Oper} (h : opOk s id o = true) : opOk s id o = true := h
theorem ok_tr {ops : Array Oper} {b : Nat} {τ : List Ef} (h : okTrace ops b τ = true) : okTrace ops b τ = true := h
structure Fin (p : Prop) : Prop where
  out : p
theorem fin_to {x y z : AV} (h : x = y) (h' : Fin (y = z)) : x = z := h.trans h'.out
theorem fin_b {x y : Bool} (h : x = y) : AV.b x = AV.b y := by rw [h]
theorem fin_i {x y : Int} (h : x = y) : AV.i x = AV.i y := by rw [h]
theorem fin_k {k : IntKind} {x y : Int} (h : x = y) : AV.pv (.int k x) = AV.pv (.int k y) := by rw [h]
theorem fin_vs {sz : Nat} {x y : List (List PV)} (h : x = y) : AV.pv (.vs sz x) = AV.pv (.vs sz y) := by rw [h]
theorem fin_agg {x y : List LV} (h : x = y) : AV.agg x = AV.agg y := by rw [h]
theorem fin_tup {x y : List RV} (h : x = y) : AV.tup x = AV.tup y := by rw [h]

/-- A state by lists. -/
def AS.of (L : List AV) (H : List (Option AObj)) (nx n n0 : Nat) (c0 : Nat → Bool) : AS :=
  { fr := fun i => match L[i]? with | some v => v | none => .any
    hp := fun i => match H[i]? with | some o => o | none => none
    nx := nx, n := n, n0 := n0, c0 := c0 }

def isAny : AV → Bool
  | .one (.lf .any) => true
  | _ => false
def isAnyL : LV → Bool
  | .any => true
  | _ => false
def frW (s : AS) (nx : Nat) : Nat → List AV → Prop
  | _, [] => True
  | k, x :: r => (match isAny x with | true => True | false => x = s.fr k ∧ belowAll nx x.ids = true) ∧ frW s nx (k + 1) r
def csW (nx : Nat) : List LV → List LV → Prop
  | [], [] => True
  | x :: r, y :: r' => (match isAnyL x with | true => True | false => x = y ∧ belowAll nx x.ids = true) ∧ csW nx r r'
  | _, _ => False
def obW (nx : Nat) : AObj → AObj → Prop
  | .box t cs, .box t' cs' => t = t' ∧ csW nx cs cs'
  | .row t sz rows, o => AObj.row t sz rows = o
  | _, _ => False
def hpW (s : AS) (nx : Nat) : Nat → List (Option AObj) → Prop
  | _, [] => True
  | k, x :: r => (match x with | none => True | some o => Nat.blt k nx = true ∧ (match s.hp k with | some o' => obW nx o o' | none => False)) ∧ hpW s nx (k + 1) r

theorem Weak.trans {a b c : AS} (h : Weak a b) (h' : Weak b c) : Weak a c := fun C x w hs => h' C x w (h C x w hs)
theorem Weak.refl (a : AS) : Weak a a := fun _ _ _ h => h

section
variable {C : Ctx} {s : AS} {S : Nat → Prop} {σ : Nat → Value} {a : Act} {w : World}

theorem frW_spec {nx : Nat} : ∀ (L : List AV) (k : Nat), frW s nx k L → ∀ (i : Nat) x, L[i]? = some x → isAny x = true ∨ (x = s.fr (k + i) ∧ ∀ j ∈ x.ids, j < nx)
  | [], _, _, i, x, h => by simp at h
  | y :: r, k, hw, i, x, h => by
    obtain ⟨h1, h2⟩ := hw
    match i with
    | 0 =>
      simp only [List.getElem?_cons_zero, Option.some.injEq] at h
      subst h
      split at h1
      · exact .inl (by assumption)
      · exact .inr ⟨h1.1, belowAll_iff.1 h1.2⟩
    | i + 1 =>
      have := frW_spec r (k + 1) h2 i x (by simpa using h)
      rw [show k + (i + 1) = k + 1 + i from by omega]
      exact this
theorem hpW_spec {nx : Nat} : ∀ (H : List (Option AObj)) (k : Nat), hpW s nx k H → ∀ (i : Nat) o, H[i]? = some (some o) → k + i < nx ∧ ∃ o', s.hp (k + i) = some o' ∧ obW nx o o'
  | [], _, _, i, x, h => by simp at h
  | y :: r, k, hw, i, o, h => by
    obtain ⟨h1, h2⟩ := hw
    match i with
    | 0 =>
      simp only [List.getElem?_cons_zero, Option.some.injEq] at h
      subst h
      simp only at h1
      obtain ⟨h3, h4⟩ := h1
      rw [Nat.blt_eq] at h3
      split at h4
      · rename_i o' ho'
        exact ⟨h3, o', ho', h4⟩
      · exact h4.elim
    | i + 1 =>
      have := hpW_spec r (k + 1) h2 i o (by simpa using h)
      rw [show k + (i + 1) = k + 1 + i from by omega]
      exact this

theorem AVR.isAny {x : AV} (h : isAny x = true) (v : Value) {w S σ n} : AVR w S σ n x v := by
  unfold Eng.isAny at h
  split at h
  · exact .one (.any v)
  · cases h

theorem csW_ls {nx : Nat} : ∀ {cs cs' : List LV}, csW nx cs cs' → cs.length = cs'.length ∧ ∀ (i : Nat) x y, cs[i]? = some x → cs'[i]? = some y → isAnyL x = true ∨ (x = y ∧ ∀ j ∈ x.ids, j < nx)
  | [], [], _ => ⟨rfl, by simp⟩
  | x :: r, y :: r', h => by
    obtain ⟨h1, h2⟩ := csW_ls h.2
    refine ⟨by simp [h1], fun i u v hu hv => ?_⟩
    match i with
    | 0 =>
      simp only [List.getElem?_cons_zero, Option.some.injEq] at hu hv
      subst hu hv
      have := h.1
      split at this
      · exact .inl (by assumption)
      · exact .inr ⟨this.1, belowAll_iff.1 this.2⟩
    | i + 1 => exact h2 i u v (by simpa using hu) (by simpa using hv)
  | [], _ :: _, h => h.elim
  | _ :: _, [], h => h.elim

theorem obW_obj {nx id : Nat} {o o' : AObj} (h : obW nx o o') (ho : ObjR w S σ s.nx id o') : ObjR w S σ nx id o := by
  unfold obW at h
  split at h
  · rename_i t cs t' cs'
    obtain ⟨rfl, h⟩ := h
    obtain ⟨h1, h2⟩ := csW_ls h
    obtain ⟨b, vs, h3, h4, h5⟩ := ho
    refine ⟨b, vs, h3, h4, by rw [h1]; exact h5.1, fun i x hx => ?_⟩
    have hlt : i < cs'.length := by rw [← h1]; exact (List.getElem?_eq_some_iff.1 hx).1
    obtain ⟨v, h6, h7⟩ := h5.2 i _ (List.getElem?_eq_getElem hlt)
    refine ⟨v, h6, ?_⟩
    rcases h2 i x _ hx (List.getElem?_eq_getElem hlt) with h8 | ⟨h8, h9⟩
    · unfold isAnyL at h8
      split at h8
      · exact .any v h7.one
      · cases h8
    · rw [h8] at h9 ⊢
      exact h7.away (fun _ _ => rfl) (fun _ h => h) fun j hj => ⟨h9 j hj, rfl⟩
  · subst h; exact ho
  · exact h.elim

theorem weak_list {L : List AV} {H : List (Option AObj)} {nx n n0 : Nat} {c0 : Nat → Bool} (hn : s.n = n) (hn0 : s.n0 = n0) (hc : s.c0 = c0) (hle : Nat.ble n0 nx = true) (hf : frW s nx 0 L) (hh : hpW s nx 0 H) : Weak s (AS.of L H nx n n0 c0) := by
  rintro C a w ⟨S, σ, hs⟩
  have get : ∀ id o, (AS.of L H nx n n0 c0).hp id = some o → id < nx ∧ ∃ o', s.hp id = some o' ∧ obW nx o o' := by
    intro id o ho
    simp only [AS.of] at ho
    split at ho
    · rename_i o' ho'
      subst ho
      have := hpW_spec H 0 hh id o ho'
      rwa [Nat.zero_add] at this
    · cases ho
  refine ⟨S, σ, ⟨hs.size.trans hn, hs.defers, fun i => ?_, ⟨fun id o ho => (get id o ho).1, fun id o ho => ?_, fun id o b ho => ?_, fun id o b ho => ?_, fun id id' o o' b ho ho' => ?_⟩, hs.lt, hs.le, hs.keep, Nat.le_of_ble_eq_true hle, fun id h1 h2 => hs.hs id (by rw [hn0]; exact h1) (by rw [hc]; exact h2), hs.up⟩⟩
  · simp only [AS.of]
    split
    · rename_i v hv
      rcases frW_spec L 0 hf i v hv with h1 | ⟨h1, h2⟩
      · exact AVR.isAny h1 _
      · have := hs.fr i
        rw [Nat.zero_add] at h1
        rw [h1] at h2 ⊢
        exact this.away (fun _ _ => rfl) (fun _ h => h) fun j hj => ⟨h2 j hj, rfl⟩
    · exact .one (.any _)
  · obtain ⟨h1, o', h2, h3⟩ := get id o ho
    exact obW_obj h3 (hs.hp.obj id o' h2)
  · obtain ⟨h1, o', h2, h3⟩ := get id o ho
    exact hs.hp.notS id o' b h2
  · obtain ⟨h1, o', h2, h3⟩ := get id o ho
    exact hs.hp.own id o' b h2
  · obtain ⟨_, o1, h2, _⟩ := get id o ho
    obtain ⟨_, o2, h4, _⟩ := get id' o' ho'
    exact hs.hp.inj id id' o1 o2 b h2 h4

/-- A nil slice in a slot as an empty row of one's own. -/
def AS.adopt (s : AS) (d t sz : Nat) : AS :=
  { s with fr := fun i => bif Nat.beq i d then .lv (.sl s.nx) else s.fr i, hp := fun j => bif Nat.beq j s.nx then some (.row t sz []) else s.hp j, nx := s.nx + 1 }
/-- A nil slice in a variable likewise. -/
def AS.adoptC (s : AS) (id k t sz : Nat) : AS :=
  { s with hp := fun j => bif Nat.beq j s.nx then some (.row t sz []) else bif Nat.beq j id then (match s.hp id with | some (.box tb cs) => some (.box tb (cs.set k (.sl s.nx))) | o => o) else s.hp j, nx := s.nx + 1 }

/-- An empty row of one's own, lying nowhere yet. -/
theorem SR.empty (hr : SR C s S σ a w) (t sz : Nat) : ∃ σ', SR C (s.new (.row t sz [])) S σ' a w ∧ σ' s.nx = .slice none 0 0 ∧ ∀ i, i < s.nx → σ' i = σ i := by
  let σ' : Nat → Value := fun i => if i = s.nx then .slice none 0 0 else σ i
  have hσ : ∀ i, i < s.nx → σ' i = σ i := fun i hi => if_neg (by omega)
  have hσn : σ' s.nx = .slice none 0 0 := if_pos rfl
  have get : ∀ id q, (s.new (.row t sz [])).hp id = some q → (id = s.nx ∧ q = .row t sz []) ∨ (id < s.nx ∧ s.hp id = some q) := by
    intro id q hq
    simp only [AS.new] at hq
    by_cases e : id = s.nx
    · subst e
      rw [Nat.beq_refl] at hq
      simp only [cond_true, Option.some.injEq] at hq
      exact .inl ⟨rfl, hq.symm⟩
    · rw [beq_ne e] at hq
      exact .inr ⟨hr.hp.lt id q hq, hq⟩
  refine ⟨σ', ⟨hr.size, hr.defers, fun i => (hr.fr i).mono (fun _ _ => rfl) (fun _ h => h) hσ (Nat.le_succ _), ⟨?_, ?_, ?_, ?_, ?_⟩, hr.lt, hr.le, hr.keep, Nat.le_succ_of_le hr.nx, ?_, hr.up⟩, hσn, hσ⟩
  · intro id q hq
    rcases get id q hq with ⟨rfl, _⟩ | ⟨h, _⟩
    · exact Nat.lt_succ_self _
    · exact Nat.lt_succ_of_lt h
  · intro id q hq
    rcases get id q hq with ⟨rfl, rfl⟩ | ⟨h, h1⟩
    · refine ⟨by simp, [], ?_, by simp, by simp⟩
      rw [hσn]
      exact ⟨by simp, .inl ⟨rfl, rfl⟩⟩
    · exact (hr.hp.obj id q h1).mono (fun _ _ => rfl) (fun _ h => h) hσ (Nat.le_succ _) h (fun _ _ => rfl)
  · intro id q b hq hb
    rcases get id q hq with ⟨rfl, rfl⟩ | ⟨h, h1⟩
    · rw [hσn] at hb; cases hb
    · rw [hσ id h] at hb; exact hr.hp.notS id q b h1 hb
  · intro id q b hq hb
    rcases get id q hq with ⟨rfl, rfl⟩ | ⟨h, h1⟩
    · rw [hσn] at hb; cases hb
    · rw [hσ id h] at hb; exact hr.hp.own id q b h1 hb
  · intro id id' q q' b hq hq' hb hb'
    rcases get id q hq with ⟨rfl, rfl⟩ | ⟨h, h1⟩
    · rw [hσn] at hb; cases hb
    · rcases get id' q' hq' with ⟨rfl, rfl⟩ | ⟨h', h1'⟩
      · rw [hσn] at hb'; cases hb'
      · rw [hσ id h] at hb
        rw [hσ id' h'] at hb'
        exact hr.hp.inj id id' q q' b h1 h1' hb hb'
  · intro id h1 h2
    have : id < s.nx := Nat.lt_of_lt_of_le h1 hr.nx
    rw [hσ id this]
    exact hr.hs id h1 h2

theorem weak_adopt {d t sz : Nat} (h : s.fr d = .pv .nils) : Weak s (s.adopt d t sz) := by
  rintro C a w ⟨S, σ, hs⟩
  obtain ⟨σ', hs', hσ, _⟩ := hs.empty t sz
  refine ⟨S, σ', ⟨hs'.size, hs'.defers, fun i => ?_, hs'.hp, hs'.lt, hs'.le, hs'.keep, hs'.nx, hs'.hs, hs'.up⟩⟩
  simp only [AS.adopt]
  by_cases e : i = d
  · subst e
    rw [Nat.beq_refl]
    have := hs.fr i
    rw [h] at this
    rw [this.nils_inv, ← hσ]
    exact .one (.lf (.sl (Nat.lt_succ_self _) (by rw [hσ]; rfl)))
  · rw [beq_ne e]
    exact hs'.fr i

theorem weak_adoptC {id k tb t sz : Nat} {cs : List LV} (h : s.hp id = some (.box tb cs)) (hk : cs[k]? = some (.pv .nils)) : Weak s (s.adoptC id k t sz) := by
  rintro C a w ⟨S, σ, hs⟩
  obtain ⟨σ', hs', hσ, hold⟩ := hs.empty t sz
  have hid : id < s.nx := hs.hp.lt id _ h
  have get : ∀ j o, (s.adoptC id k t sz).hp j = some o → (∃ o', (s.new (.row t sz [])).hp j = some o') ∧ ((s.new (.row t sz [])).hp j = some o ∨ (j = id ∧ o = .box tb (cs.set k (.sl s.nx)))) := by
    intro j o ho
    simp only [AS.adoptC, h] at ho
    simp only [AS.new]
    by_cases e : j = s.nx
    · subst e
      rw [Nat.beq_refl] at ho ⊢
      exact ⟨⟨o, ho⟩, .inl ho⟩
    · rw [beq_ne e] at ho ⊢
      simp only [cond_false] at ho ⊢
      by_cases e' : j = id
      · subst e'
        rw [Nat.beq_refl] at ho
        simp only [cond_true, Option.some.injEq] at ho
        exact ⟨⟨_, h⟩, .inr ⟨rfl, ho.symm⟩⟩
      · rw [beq_ne e'] at ho
        exact ⟨⟨o, ho⟩, .inl ho⟩
  refine ⟨S, σ', ⟨hs'.size, hs'.defers, hs'.fr, ⟨fun j o ho => ?_, fun j o ho => ?_, fun j o b ho => ?_, fun j o b ho => ?_, fun j j' o o' b ho ho' => ?_⟩, hs'.lt, hs'.le, hs'.keep, hs'.nx, hs'.hs, hs'.up⟩⟩
  · obtain ⟨⟨o', h1⟩, _⟩ := get j o ho; exact hs'.hp.lt j o' h1
  · obtain ⟨⟨o', h1⟩, h2 | ⟨rfl, rfl⟩⟩ := get j o ho
    · exact hs'.hp.obj j o h2
    · have hb : (s.new (.row t sz [])).hp j = some (.box tb cs) := by
        simp only [AS.new, beq_ne (show j ≠ s.nx by omega), cond_false]; exact h
      obtain ⟨b, vs, h3, h4, h5⟩ := hs'.hp.obj j _ hb
      refine ⟨b, vs, h3, h4, by rw [List.length_set]; exact h5.1, fun i x hx => ?_⟩
      rw [List.getElem?_set] at hx
      split at hx
      · rename_i hik
        subst hik
        split at hx
        · simp only [Option.some.injEq] at hx
          subst hx
          obtain ⟨v, h6, h7⟩ := h5.2 k _ hk
          refine ⟨v, h6, ?_⟩
          cases h7 with
          | pv h7 =>
            cases h7 with
            | nils =>
              have : Value.slice none 0 0 = σ' s.nx := hσ.symm
              rw [this]
              exact .sl (Nat.lt_succ_self _) (by rw [hσ]; rfl)
        · cases hx
      · exact h5.2 i x hx
  · obtain ⟨⟨o', h1⟩, _⟩ := get j o ho; exact hs'.hp.notS j o' b h1
  · obtain ⟨⟨o', h1⟩, _⟩ := get j o ho; exact hs'.hp.own j o' b h1
  · obtain ⟨⟨o1, h1⟩, _⟩ := get j o ho
    obtain ⟨⟨o2, h2⟩, _⟩ := get j' o' ho'
    exact hs'.hp.inj j j' o1 o2 b h1 h2


/-- A state by what it bears. -/
def look : List (Nat × AV) → Nat → AV
  | [], _ => .any
  | (k, x) :: r, i => bif Nat.beq i k then x else look r i
def lookO : List (Nat × AObj) → Nat → Option AObj
  | [], _ => none
  | (k, x) :: r, i => bif Nat.beq i k then some x else lookO r i
def AS.on (L : List (Nat × AV)) (H : List (Nat × AObj)) (nx n n0 : Nat) (c0 : Nat → Bool) : AS := { fr := look L, hp := lookO H, nx := nx, n := n, n0 := n0, c0 := c0 }
def onW (s : AS) (nx : Nat) : List (Nat × AV) → Prop
  | [] => True
  | (k, x) :: r => (x = s.fr k ∧ belowAll nx x.ids = true) ∧ onW s nx r
def onH (s : AS) (nx : Nat) : List (Nat × AObj) → Prop
  | [] => True
  | (k, o) :: r => (Nat.blt k nx = true ∧ ∃ o', s.hp k = some o' ∧ obW nx o o') ∧ onH s nx r
theorem onW_spec {nx : Nat} : ∀ (L : List (Nat × AV)), onW s nx L → ∀ i, look L i = .any ∨ (look L i = s.fr i ∧ ∀ j ∈ (s.fr i).ids, j < nx)
  | [], _, i => .inl rfl
  | (k, x) :: r, h, i => by
    simp only [look]
    by_cases e : i = k
    · subst e
      rw [Nat.beq_refl]
      exact .inr ⟨h.1.1, by rw [← h.1.1]; exact belowAll_iff.1 h.1.2⟩
    · rw [beq_ne e]
      exact onW_spec r h.2 i
theorem onH_spec {nx : Nat} : ∀ (H : List (Nat × AObj)), onH s nx H → ∀ i o, lookO H i = some o → i < nx ∧ ∃ o', s.hp i = some o' ∧ obW nx o o'
  | [], _, i, o, h => by cases h
  | (k, x) :: r, h, i, o, ho => by
    simp only [lookO] at ho
    by_cases e : i = k
    · subst e
      rw [Nat.beq_refl] at ho
      simp only [cond_true, Option.some.injEq] at ho
      subst ho
      have := h.1.1
      rw [Nat.blt_eq] at this
      exact ⟨this, h.1.2⟩
    · rw [beq_ne e] at ho
      exact onH_spec r h.2 i o ho
theorem weak_on {L : List (Nat × AV)} {H : List (Nat × AObj)} {nx n n0 : Nat} {c0 : Nat → Bool} (hn : s.n = n) (hn0 : s.n0 = n0) (hc : s.c0 = c0) (hle : Nat.ble n0 nx = true) (hf : onW s nx L) (hh : onH s nx H) : Weak s (AS.on L H nx n n0 c0) := by
  rintro C a w ⟨S, σ, hs⟩
  have get : ∀ id o, (AS.on L H nx n n0 c0).hp id = some o → id < nx ∧ ∃ o', s.hp id = some o' ∧ obW nx o o' := fun id o ho => onH_spec H hh id o ho
  refine ⟨S, σ, ⟨hs.size.trans hn, hs.defers, fun i => ?_, ⟨fun id o ho => (get id o ho).1, fun id o ho => ?_, fun id o b ho => ?_, fun id o b ho => ?_, fun id id' o o' b ho ho' => ?_⟩, hs.lt, hs.le, hs.keep, Nat.le_of_ble_eq_true hle, fun id h1 h2 => hs.hs id (by rw [hn0]; exact h1) (by rw [hc]; exact h2), hs.up⟩⟩
  · show AVR w S σ nx (look L i) _
    rcases onW_spec L hf i with h1 | ⟨h1, h2⟩
    · rw [h1]; exact .one (.any _)
    · rw [h1]
      exact (hs.fr i).away (fun _ _ => rfl) (fun _ h => h) fun j hj => ⟨h2 j hj, rfl⟩
  · obtain ⟨h1, o', h2, h3⟩ := get id o ho
    exact obW_obj h3 (hs.hp.obj id o' h2)
  · obtain ⟨h1, o', h2, h3⟩ := get id o ho
    exact hs.hp.notS id o' b h2
  · obtain ⟨h1, o', h2, h3⟩ := get id o ho
    exact hs.hp.own id o' b h2
  · obtain ⟨_, o1, h2, _⟩ := get id o ho
    obtain ⟨_, o2, h4, _⟩ := get id' o' ho'
    exact hs.hp.inj id id' o1 o2 b h2 h4

theorem wrap_id {n : Int} (h0 : -9223372036854775808 ≤ n) (h1 : n ≤ 9223372036854775807) : IntKind.i64.wrap n = n := Go.IntWalk.i64_in n ⟨h0, h1⟩

end
end Go.Proofs.YtijjagkeaehhbaaGreat.Eng

/- The engine: a call that writes what it is handed, told in its own names. -/
set_option linter.unusedSimpArgs false
set_option linter.unusedVariables false
namespace Go.Proofs.YtijjagkeaehhbaaGreat.Eng
open Go.RowKit (Below)

def hpOf (objs : List AObj) : Nat → Option AObj := fun i => objs[i]?
/-- The blocks behind the handed objects. -/
def Bof (σ : Nat → Value) (m : Nat) : Nat → Prop := fun b => ∃ i, i < m ∧ blk (σ i) = some b

/-- A call in its own names: the arguments, the objects handed in, which handles may turn, what comes of them. -/
def CallF (P : Program) (g : Nat) (args : List AV) (objs : List AObj) (ch : Nat → Bool) (Q : AV → List AObj → Prop) : Prop :=
  Ent P g ∧ ∀ (w : World) (S : Nat → Prop) (σ : Nat → Value), (∀ b, S b → b < w.heap.size) → HR (Bof σ objs.length) w S σ objs.length (hpOf objs) →
    ∀ vs : Array Value, vs.size = args.length → (∀ (i : Nat) (x : AV), args[i]? = some x → ∃ v, vs[i]? = some v ∧ AVR w S σ objs.length x v) →
    Calls P g vs w fun e w' => ∃ v r objs' S' σ', Q r objs' ∧ e = .returned v ∧ objs'.length = objs.length ∧ Keeps w w' (Bof σ objs.length) ∧ (∀ b, S b → S' b) ∧ (∀ b, S' b → S b ∨ w.heap.size ≤ b ∨ Bof σ objs.length b) ∧ (∀ b, S' b → b < w'.heap.size) ∧
      HR (fun b => Bof σ objs.length b ∨ w.heap.size ≤ b) w' S' σ' objs.length (hpOf objs') ∧ (∀ i, i < objs.length → ch i = false → σ' i = σ i) ∧ AVR w' S' σ' objs.length r v

def AS.startF (args : List AV) (objs : List AObj) (n : Nat) (ch : Nat → Bool) : AS := { fr := fun i => match args[i]? with | some v => v | none => .any, hp := hpOf objs, nx := objs.length, n := n, n0 := objs.length, c0 := ch }
def frzO (m : Nat) (hp : Nat → Option AObj) : AObj → Option AObj
  | .box t cs => match frzLs m hp cs with | some l => some (.box t l) | none => none
  | o => some o
def gather (m : Nat) (hp : Nat → Option AObj) : Nat → Nat → Option (List AObj)
  | 0, _ => some []
  | k + 1, i => match hp i with
    | some o => match frzO m hp o, gather m hp k (i + 1) with | some o', some l => some (o' :: l) | _, _ => none
    | none => none
def EndsF (T : Tab) (fn : Func) (m : Nat) (ch : Nat → Bool) (Q : AV → List AObj → Prop) (e : Exit) (s : AS) : Prop :=
  (match e with | .normal => True | .ret => True | _ => False) ∧ (s.n0 = m ∧ s.c0 = ch) ∧ match resultsA T fn.results.toList s with
    | some v => match frzA m s.hp v with
      | some r => match gather m s.hp m 0 with | some objs => Q r objs | none => False
      | none => False
    | none => False

theorem gather_spec {m : Nat} {hp : Nat → Option AObj} : ∀ (k i : Nat) (l : List AObj), gather m hp k i = some l → l.length = k ∧ ∀ (j : Nat) o, l[j]? = some o → ∃ o', hp (i + j) = some o' ∧ frzO m hp o' = some o
  | 0, i, l, h => by simp only [gather, Option.some.injEq] at h; subst h; simp
  | k + 1, i, l, h => by
    simp only [gather] at h
    split at h
    · rename_i o ho
      split at h
      · rename_i o' l' h1 h2
        simp only [Option.some.injEq] at h
        subst h
        obtain ⟨h3, h4⟩ := gather_spec k (i + 1) l' h2
        refine ⟨by simp [h3], fun j q hq => ?_⟩
        match j with
        | 0 => simp only [List.getElem?_cons_zero, Option.some.injEq] at hq; subst hq; exact ⟨o, ho, h1⟩
        | j + 1 =>
          have := h4 j q (by simpa using hq)
          rw [show i + (j + 1) = i + 1 + j from by omega]
          exact this
      · cases h
    · cases h

section
variable {P : Program} {T : Tab} {C : Ctx} {s : AS} {S S' : Nat → Prop} {σ : Nat → Value} {a : Act} {w : World} {m : Nat}

theorem frzO_sound (hs : SR C s S σ a w) (hg : Grows s S S' σ m) {id : Nat} {o o' : AObj} (ho : ObjR w S σ s.nx id o) (h : frzO m s.hp o = some o') : ObjR w S' σ m id o' := by
  cases o with
  | box t cs =>
    simp only [frzO] at h
    split at h
    · rename_i l hl
      simp only [Option.some.injEq] at h
      subst h
      obtain ⟨b, vs, h1, h2, h3⟩ := ho
      exact ⟨b, vs, h1, h2, frzLs_ls hs hg h3 hl⟩
    · cases h
  | row t sz rows =>
    simp only [frzO, Option.some.injEq] at h
    subst h
    obtain ⟨h0, xs, h1, h2, h3⟩ := ho
    exact ⟨h0, xs, h1, h2, fun i j r p hr hp => let ⟨v, hv, hh⟩ := h3 i j r p hr hp; ⟨v, hv, hh.mono (fun _ _ => rfl) hg.le⟩⟩

theorem callF_sem (hT : TOK P T) {g : Nat} {fn : Func} {c : Code} (hf : P.funcs[g]? = some fn) (hb : fn.body = some c) (hent : Ent P g) {args : List AV} {objs : List AObj} {ch : Nat → Bool} {Q : AV → List AObj → Prop} (hle : args.length ≤ fn.ntmps)
    (h : Wlk P c (AS.startF args objs fn.ntmps ch) (EndsF T fn objs.length ch Q)) : CallF P g args objs ch Q := by
  refine ⟨hent, fun w S σ hS hH vs hn hv => ?_⟩
  have hst : SR ⟨w, S, Bof σ objs.length, σ⟩ (AS.startF args objs fn.ntmps ch) S σ { tmps := vs ++ Array.replicate (fn.ntmps - vs.size) undef, defers := [] } w := by
    refine ⟨by simp [AS.startF]; omega, rfl, fun i => ?_, ⟨hH.lt, hH.obj, hH.notS, fun id o b h1 h2 => .inl (hH.own id o b h1 h2), hH.inj⟩, hS, fun _ h => h, ⟨rfl, rfl, rfl, Nat.le_refl _, fun _ _ _ => rfl⟩, Nat.le_refl _, fun _ _ _ => rfl, fun b h => .inl h⟩
    simp only [AS.startF]
    cases hx : args[i]? with
    | none => exact .one (.any _)
    | some x =>
      obtain ⟨v, h1, h2⟩ := hv i x hx
      have hlt : i < vs.size := (Array.getElem?_eq_some_iff.1 h1).1
      simp only [Array.getD_eq_getD_getElem?, Array.getElem?_append_left hlt, h1, Option.getD_some]
      exact h2
  refine calls_of_wp hf hb (wp_mono (h.run _ _ w ⟨S, _, hst⟩) ?_)
  rintro e a' w' ⟨s', ⟨h1, hn0, h2⟩, Sx, σ', hs'⟩
  have fin : a'.defers = [] ∧ ∃ v, (results fn a'.tmps).run P w' = .ok v w' ∧ ∃ v' r objs' S' σ', Q r objs' ∧ Ending.returned v = .returned v' ∧ objs'.length = objs.length ∧ Keeps w w' (Bof σ objs.length) ∧ (∀ b, S b → S' b) ∧ (∀ b, S' b → S b ∨ w.heap.size ≤ b ∨ Bof σ objs.length b) ∧ (∀ b, S' b → b < w'.heap.size) ∧
      HR (fun b => Bof σ objs.length b ∨ w.heap.size ≤ b) w' S' σ' objs.length (hpOf objs') ∧ (∀ i, i < objs.length → ch i = false → σ' i = σ i) ∧ AVR w' S' σ' objs.length r v' := by
    refine ⟨hs'.defers, ?_⟩
    split at h2
    · rename_i v hv
      split at h2
      · rename_i r hr
        split at h2
        · rename_i objs' hobjs
          obtain ⟨cv, h3, h4⟩ := results_sound hT hs' hv
          obtain ⟨h5, h6⟩ := gather_spec _ _ _ hobjs
          have hg : Grows s' Sx (fun b => Sx b ∨ ∃ id o, objs.length ≤ id ∧ s'.hp id = some o ∧ blk (σ' id) = some b) σ' objs.length := ⟨fun b h => .inl h, fun id o b hid ho hb => .inr ⟨id, o, hid, ho, hb⟩⟩
          have get : ∀ i o, hpOf objs' i = some o → i < objs.length ∧ ∃ o', s'.hp i = some o' ∧ frzO objs.length s'.hp o' = some o := by
            intro i o ho
            have hlt : i < objs'.length := (List.getElem?_eq_some_iff.1 ho).1
            have := h6 i o ho
            rw [Nat.zero_add] at this
            exact ⟨by omega, this⟩
          refine ⟨cv, h3, cv, r, objs', _, σ', h2, rfl, h5, hs'.keep, fun b hb => .inl (hs'.le b hb), fun b hb => ?_, fun b hb => ?_, ⟨fun i o ho => (get i o ho).1, fun i o ho => ?_, fun i o b ho hb => ?_, fun i o b ho hb => ?_, fun i i' o o' b ho ho' hb hb' => ?_⟩, fun i hi hc => ?_, frzA_sound hs' hg h4 hr⟩
          · rcases hb with hb | ⟨id, o, _, ho, hb⟩
            · exact hs'.up b hb
            · rcases hs'.hp.own id o b ho hb with h7 | h7
              · exact .inr (.inr h7)
              · exact .inr (.inl h7)
          · rcases hb with hb | ⟨id, o, _, ho, hb⟩
            · exact hs'.lt b hb
            · exact blk_lt (hs'.hp.obj id o ho) hb
          · obtain ⟨h7, o', h8, h9⟩ := get i o ho
            exact frzO_sound hs' hg (hs'.hp.obj i o' h8) h9
          · obtain ⟨h7, o', h8, h9⟩ := get i o ho
            rintro (h10 | ⟨id, q, h10, h11, h12⟩)
            · exact hs'.hp.notS i o' b h8 hb h10
            · have := hs'.hp.inj i id o' q b h8 h11 hb h12; omega
          · obtain ⟨h7, o', h8, h9⟩ := get i o ho
            exact hs'.hp.own i o' b h8 hb
          · obtain ⟨_, o1, h8, _⟩ := get i o ho
            obtain ⟨_, o2, h9, _⟩ := get i' o' ho'
            exact hs'.hp.inj i i' o1 o2 b h8 h9 hb hb'
          · exact hs'.hs i (by rw [hn0.1]; exact hi) (by rw [hn0.2]; exact hc)
        · exact h2.elim
      · exact h2.elim
    · exact h2.elim
  cases e with
  | normal => exact fin
  | ret => exact fin
  | _ => exact h1.elim

theorem callF_body (hT : TOK P T) (hm : P.follows .mixedOrders = true) {g : Nat} {fn : Func} {c : Code} (hf : P.funcs[g]? = some fn) (hb : fn.body = some c) (hent : Ent P g) {args : List AV} {objs : List AObj} {ch : Nat → Bool} {Q : AV → List AObj → Prop} (hle : args.length ≤ fn.ntmps)
    (h : vcCode P T c (AS.startF args objs fn.ntmps ch) (EndsF T fn objs.length ch Q)) : CallF P g args objs ch Q := callF_sem hT hf hb hent hle (sem_vc hT hm h)

/-- Names for names. -/
def rn (ρ : List Nat) (i : Nat) : Nat := match ρ[i]? with | some j => j | none => 0
def LV.ren (ρ : List Nat) : LV → LV
  | .ptr i off => .ptr (rn ρ i) off
  | .rp i z j off => .rp (rn ρ i) z j off
  | .sl i => .sl (rn ρ i)
  | .clo g l => .clo g (l.map (rn ρ))
  | x => x
def RV.ren (ρ : List Nat) : RV → RV
  | .lf x => .lf (x.ren ρ)
  | .agg xs => .agg (xs.map (LV.ren ρ))
def AV.ren (ρ : List Nat) : AV → AV
  | .one r => .one (r.ren ρ)
  | .tup rs => .tup (rs.map (RV.ren ρ))
def AObj.ren (ρ : List Nat) : AObj → AObj
  | .box t cs => .box t (cs.map (LV.ren ρ))
  | o => o
def meets (l : List Nat) : List Nat → Bool
  | [] => false
  | i :: r => memb i l || meets l r
def LV.wipe (l : List Nat) (x : LV) : LV := bif meets l x.ids then .any else x
def RV.wipe (l : List Nat) : RV → RV
  | .lf x => .lf (x.wipe l)
  | .agg xs => bif meets l (lids xs) then .lf .any else .agg xs
def AV.wipe (l : List Nat) : AV → AV
  | .one r => .one (r.wipe l)
  | .tup rs => .tup (rs.map (RV.wipe l))
def AObj.wipe (l : List Nat) : AObj → AObj
  | .box t cs => .box t (cs.map (LV.wipe l))
  | o => o
def setAll : List Nat → List AObj → (Nat → Option AObj) → Nat → Option AObj
  | a :: r, o :: os, hp, j => bif Nat.beq j a then some o else setAll r os hp j
  | _, _, hp, j => hp j
def chg (ρ : List Nat) (ch : Nat → Bool) : List Nat → List Nat
  | [] => []
  | i :: r => bif ch i then rn ρ i :: chg ρ ch r else chg ρ ch r
def AS.after (s : AS) (ρ : List Nat) (ch : Nat → Bool) (objs : List AObj) : AS :=
  { s with fr := fun i => (s.fr i).wipe (chg ρ ch (List.range ρ.length)), hp := setAll ρ (objs.map (AObj.ren ρ)) fun j => (s.hp j).map (AObj.wipe (chg ρ ch (List.range ρ.length))) }

theorem meets_false {l r : List Nat} (h : meets l r = false) : ∀ i ∈ r, i ∉ l := by
  induction r with
  | nil => intro i hi; cases hi
  | cons a r ih =>
    simp only [meets, Bool.or_eq_false_iff] at h
    intro i hi
    rcases List.mem_cons.1 hi with rfl | hi
    · intro hm; rw [memb_iff.2 hm] at h; cases h.1
    · exact ih h.2 i hi

section
variable {w' : World} {σ' : Nat → Value} {n n' : Nat} {l ρ : List Nat}

theorem LVR.wipe (hk : ∀ b, S b → w'.heap[b]? = w.heap[b]?) (hS : ∀ b, S b → S' b) (hσ : ∀ i, i < n → i ∉ l → i < n' ∧ σ' i = σ i) {x : LV} {v : Value} (h : LVR w S σ n x v) : LVR w' S' σ' n' (x.wipe l) v := by
  unfold LV.wipe
  cases hm : meets l x.ids with
  | true => exact .any v h.one
  | false => exact h.away hk hS fun i hi => hσ i (ids_lt (x := .lv x) (.one (.lf h)) i hi) (meets_false hm i hi)
theorem RVR.wipe (hk : ∀ b, S b → w'.heap[b]? = w.heap[b]?) (hS : ∀ b, S b → S' b) (hσ : ∀ i, i < n → i ∉ l → i < n' ∧ σ' i = σ i) {x : RV} {v : Value} (h : RVR w S σ n x v) : RVR w' S' σ' n' (x.wipe l) v := by
  cases h with
  | any v => simp only [RV.wipe, LV.wipe, LV.ids, meets, cond_false]; exact .any v
  | lf h => exact .lf (h.wipe hk hS hσ)
  | @agg xs vs h =>
    simp only [RV.wipe]
    cases hm : meets l (lids xs) with
    | true => exact .any _
    | false => exact .agg (h.away hk hS fun i hi => hσ i (ids_lt (x := .agg xs) (.one (.agg h)) i hi) (meets_false hm i hi))
theorem AVR.wipe (hk : ∀ b, S b → w'.heap[b]? = w.heap[b]?) (hS : ∀ b, S b → S' b) (hσ : ∀ i, i < n → i ∉ l → i < n' ∧ σ' i = σ i) {x : AV} {v : Value} (h : AVR w S σ n x v) : AVR w' S' σ' n' (x.wipe l) v := by
  cases h with
  | one h => exact .one (h.wipe hk hS hσ)
  | tup hn h =>
    refine .tup (by simpa using hn) fun i r hr => ?_
    rw [List.getElem?_map] at hr
    obtain ⟨r', h1, rfl⟩ := Option.map_eq_some_iff.1 hr
    obtain ⟨v, h2, h3⟩ := h i r' h1
    exact ⟨v, h2, h3.wipe hk hS hσ⟩

theorem LVR.ren (hσ : ∀ i, i < n → rn ρ i < n' ∧ σ' (rn ρ i) = σ i) {x : LV} {v : Value} (h : LVR w S σ n x v) : LVR w S σ' n' (x.ren ρ) v := by
  cases h with
  | pv h => exact .pv h
  | any v h => exact .any v h
  | ptr hi h => exact .ptr (hσ _ hi).1 ((hσ _ hi).2.trans h)
  | rp hi h => exact .rp (hσ _ hi).1 ((hσ _ hi).2.trans h)
  | @sl i hi h1 => rw [← (hσ i hi).2]; exact .sl (hσ _ hi).1 (by rw [(hσ i hi).2]; exact h1)
  | @clo g ids hi =>
    have : ids.map σ = (ids.map (rn ρ)).map σ' := by
      rw [List.map_map]
      exact List.map_congr_left fun i hm => ((hσ i (hi i hm).1).2).symm
    rw [this]
    refine .clo fun j hj => ?_
    obtain ⟨i, hm, rfl⟩ := List.mem_map.1 hj
    obtain ⟨h1, b, hb⟩ := hi i hm
    exact ⟨(hσ i h1).1, b, (hσ i h1).2.trans hb⟩
theorem LVR.unren (hσ : ∀ i, i < n → σ' (rn ρ i) = σ i) {x : LV} {v : Value} (hx : ∀ i ∈ x.ids, i < n) (h : LVR w S σ' n' (x.ren ρ) v) : LVR w S σ n x v := by
  cases x with
  | pv p => cases h with | pv h => exact .pv h
  | any => cases h with | any _ h => exact .any _ h
  | ptr i off =>
    have hi := hx i (by simp [LV.ids])
    cases h with | ptr _ h => exact .ptr hi ((hσ i hi).symm.trans h)
  | rp i z j off =>
    have hi := hx i (by simp [LV.ids])
    cases h with | rp _ h => exact .rp hi ((hσ i hi).symm.trans h)
  | sl i =>
    have hi := hx i (by simp [LV.ids])
    cases h with | sl _ h1 => rw [hσ i hi] at h1 ⊢; exact .sl hi h1
  | clo g ids =>
    cases h with
    | clo h =>
      have : (ids.map (rn ρ)).map σ' = ids.map σ := by
        rw [List.map_map]
        exact List.map_congr_left fun i hm => hσ i (hx i (by simpa [LV.ids] using hm))
      rw [this]
      refine .clo fun i hm => ?_
      have hi := hx i (by simpa [LV.ids] using hm)
      obtain ⟨_, b, hb⟩ := h (rn ρ i) (List.mem_map_of_mem hm)
      exact ⟨hi, b, (hσ i hi).symm.trans hb⟩
theorem lids_mem {xs : List LV} {i : Nat} {x : LV} (hx : xs[i]? = some x) {n : Nat} (h : ∀ k ∈ lids xs, k < n) : ∀ k ∈ x.ids, k < n := fun k hk => h k (mem_lids hx hk)
theorem LsR.ren (hσ : ∀ i, i < n → rn ρ i < n' ∧ σ' (rn ρ i) = σ i) {xs : List LV} {vs : Array Value} (h : LsR w S σ n xs vs) : LsR w S σ' n' (xs.map (LV.ren ρ)) vs := by
  refine ⟨by simpa using h.1, fun i x hx => ?_⟩
  rw [List.getElem?_map] at hx
  obtain ⟨y, h1, rfl⟩ := Option.map_eq_some_iff.1 hx
  obtain ⟨v, h2, h3⟩ := h.2 i y h1
  exact ⟨v, h2, h3.ren hσ⟩
theorem LsR.unren (hσ : ∀ i, i < n → σ' (rn ρ i) = σ i) {xs : List LV} {vs : Array Value} (hx : ∀ i ∈ lids xs, i < n) (h : LsR w S σ' n' (xs.map (LV.ren ρ)) vs) : LsR w S σ n xs vs := by
  refine ⟨by simpa using h.1, fun i x hi => ?_⟩
  obtain ⟨v, h2, h3⟩ := h.2 i (x.ren ρ) (by rw [List.getElem?_map, hi]; rfl)
  exact ⟨v, h2, h3.unren hσ (lids_mem hi hx)⟩
theorem RVR.ren (hσ : ∀ i, i < n → rn ρ i < n' ∧ σ' (rn ρ i) = σ i) {x : RV} {v : Value} (h : RVR w S σ n x v) : RVR w S σ' n' (x.ren ρ) v := by
  cases h with
  | any v => exact .any v
  | lf h => exact .lf (h.ren hσ)
  | agg h => exact .agg (h.ren hσ)
theorem RVR.unren (hσ : ∀ i, i < n → σ' (rn ρ i) = σ i) {x : RV} {v : Value} (hx : ∀ i ∈ x.ids, i < n) (h : RVR w S σ' n' (x.ren ρ) v) : RVR w S σ n x v := by
  cases x with
  | lf x =>
    by_cases e : x = .any
    · subst e; exact .any v
    · simp only [RV.ren] at h
      cases hx' : x.ren ρ with
      | any => cases x <;> simp [LV.ren] at hx' e
      | _ =>
        rw [hx'] at h
        cases h with
        | lf h => rw [← hx'] at h; exact .lf (h.unren hσ hx)
  | agg xs => cases h with | agg h => exact .agg (h.unren hσ hx)
theorem AVR.ren (hσ : ∀ i, i < n → rn ρ i < n' ∧ σ' (rn ρ i) = σ i) {x : AV} {v : Value} (h : AVR w S σ n x v) : AVR w S σ' n' (x.ren ρ) v := by
  cases h with
  | one h => exact .one (h.ren hσ)
  | tup hn h =>
    refine .tup (by simpa using hn) fun i r hr => ?_
    rw [List.getElem?_map] at hr
    obtain ⟨r', h1, rfl⟩ := Option.map_eq_some_iff.1 hr
    obtain ⟨v, h2, h3⟩ := h i r' h1
    exact ⟨v, h2, h3.ren hσ⟩
theorem AVR.unren (hσ : ∀ i, i < n → σ' (rn ρ i) = σ i) {x : AV} {v : Value} (hx : ∀ i ∈ x.ids, i < n) (h : AVR w S σ' n' (x.ren ρ) v) : AVR w S σ n x v := by
  cases x with
  | one r => cases h with | one h => exact .one (h.unren hσ hx)
  | tup rs =>
    cases h with
    | tup hn h =>
      refine .tup (by simpa using hn) fun i r hr => ?_
      obtain ⟨v, h2, h3⟩ := h i (r.ren ρ) (by rw [List.getElem?_map, hr]; rfl)
      exact ⟨v, h2, h3.unren hσ fun k hk => hx k (mem_rids hr hk)⟩
end

end
end Go.Proofs.YtijjagkeaehhbaaGreat.Eng
