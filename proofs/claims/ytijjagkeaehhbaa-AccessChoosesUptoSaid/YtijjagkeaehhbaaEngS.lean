/- The engine: results; a function of values by its body. -/
import Derived.Test.YtijjagkeaehhbaaEngR
set_option linter.unusedSimpArgs false
set_option linter.unusedVariables false
namespace Go.Proofs.Ytijjagkeaehhbaa.Eng
open Go.RowKit (Below)

def resOne (T : Tab) (s : AS) : ResultVar → Option RV
  | .tmp t => match s.fr t with | .one r => some r | .tup _ => none
  | .cell x t => match T t, s.fr x with
    | some i, .one (.lf (.ptr id off)) => match s.hp id with
      | some (.box _ cs) => match ofCells i.agg cs off i.size with | some (.one r) => some r | _ => none
      | _ => none
    | _, _ => none
def resAll (T : Tab) (s : AS) : List ResultVar → Option (List RV)
  | [] => some []
  | x :: r => match resOne T s x, resAll T s r with | some v, some l => some (v :: l) | _, _ => none
def resultsA (T : Tab) (rs : List ResultVar) (s : AS) : Option AV :=
  match resAll T s rs with
  | some [r] => some (.one r)
  | some l => some (.tup l)
  | none => none

/-- Values by themselves: what lies behind a slice of the call's own; names below m stay names. -/
def belowAll (m : Nat) : List Nat → Bool
  | [] => true
  | i :: r => Nat.blt i m && belowAll m r
def frzL (m : Nat) (hp : Nat → Option AObj) : LV → Option LV
  | .pv p => some (.pv p)
  | .any => some .any
  | .sl id => match Nat.blt id m with
    | true => some (.sl id)
    | false => match hp id with | some (.row _ sz rows) => some (.pv (.vs sz rows)) | _ => none
  | x => match belowAll m x.ids with | true => some x | false => none
def frzLs (m : Nat) (hp : Nat → Option AObj) : List LV → Option (List LV)
  | [] => some []
  | x :: r => match frzL m hp x, frzLs m hp r with | some p, some l => some (p :: l) | _, _ => none
def frzR (m : Nat) (hp : Nat → Option AObj) : RV → Option RV
  | .lf x => match frzL m hp x with | some p => some (.lf p) | none => none
  | .agg xs => match frzLs m hp xs with | some l => some (.agg l) | none => none
def frzRs (m : Nat) (hp : Nat → Option AObj) : List RV → Option (List RV)
  | [] => some []
  | x :: r => match frzR m hp x, frzRs m hp r with | some p, some l => some (p :: l) | _, _ => none
def frzA (m : Nat) (hp : Nat → Option AObj) : AV → Option AV
  | .one r => match frzR m hp r with | some r => some (.one r) | none => none
  | .tup rs => match frzRs m hp rs with | some l => some (.tup l) | none => none

/-- What a body ends with. -/
def Ends (T : Tab) (fn : Func) (R : AV → Prop) (e : Exit) (s : AS) : Prop :=
  (match e with | .normal => True | .ret => True | _ => False) ∧ match resultsA T fn.results.toList s with
    | some v => match frzA 0 s.hp v with | some r => R r | none => False
    | none => False

def AS.start (args : List AV) (n : Nat) : AS := { fr := fun i => match args[i]? with | some v => v | none => .any, hp := fun _ => none, nx := 0, n := n, n0 := 0, c0 := fun _ => false }

section
variable {P : Program} {T : Tab} {C : Ctx} {s : AS} {S : Nat → Prop} {σ : Nat → Value} {a : Act} {w : World}

def readRes (tmps : Array Value) : ResultVar → Sem Value
  | .tmp t => pure (tmps.getD t undef)
  | .cell y t => do loadVar t (← asAddr (tmps.getD y undef))

theorem resOne_sound (hT : TOK P T) (hs : SR C s S σ a w) {x : ResultVar} {r : RV} (h : resOne T s x = some r) :
    ∃ v, (readRes a.tmps x).run P w = .ok v w ∧ RVR w S σ s.nx r v := by
  cases x with
  | tmp t =>
    simp only [resOne] at h
    have hv := hs.fr t
    split at h
    · rename_i r' hr
      rw [hr] at hv
      simp only [Option.some.injEq] at h
      subst h
      cases hv with
      | one hv => exact ⟨_, rfl, hv⟩
    · cases h
  | cell y t =>
    simp only [resOne] at h
    split at h
    · rename_i i id off hi hy
      split at h
      · rename_i t' cs hid
        split at h
        · rename_i r' hv
          simp only [Option.some.injEq] at h
          subst h
          obtain ⟨j, d, z, ht⟩ := typeOk (hT t i hi)
          obtain ⟨_, b, hb, he⟩ := (hy ▸ hs.fr y).ptr_inv
          obtain ⟨b', vs, h1, h2, h3⟩ := hs.hp.obj id _ hid
          rw [hb] at h1
          obtain rfl : b = b' := by simpa using h1
          obtain ⟨cv, hr, hav⟩ := load_cells ht (box_cells h2 h3) hv
          rw [Nat.zero_add] at hr
          simp only [Instr.loadAt, Instr.sureAddr, Sem.run_bind, Sem.run_pure, Result.andThen_ok] at hr
          refine ⟨cv, ?_, ?_⟩
          · have : a.tmps.getD y undef = .pointer (some ⟨b, off, none⟩) := he
            simp only [readRes, this, asAddr, Sem.run_bind, Sem.run_pure, Result.andThen_ok]
            exact hr
          · cases hav with | one hh => exact hh
        · cases h
      · cases h
    · cases h

theorem resAll_sound (hT : TOK P T) (hs : SR C s S σ a w) : ∀ (xs : List ResultVar) (rs : List RV), resAll T s xs = some rs →
    ∃ vs : List Value, (xs.mapM (readRes a.tmps)).run P w = .ok vs w ∧ vs.length = rs.length ∧ ∀ (i : Nat) r, rs[i]? = some r → ∃ v, vs[i]? = some v ∧ RVR w S σ s.nx r v
  | [], rs, h => by
    simp only [resAll, Option.some.injEq] at h
    subst h
    exact ⟨[], by simp, rfl, by simp⟩
  | x :: xs, rs, h => by
    simp only [resAll] at h
    split at h
    · rename_i v l h1 h2
      simp only [Option.some.injEq] at h
      subst h
      obtain ⟨cv, hr, hv⟩ := resOne_sound hT hs h1
      obtain ⟨vs, hrs, hn, hvs⟩ := resAll_sound hT hs xs l h2
      refine ⟨cv :: vs, ?_, by simp [hn], fun i r hi => ?_⟩
      · rw [List.mapM_cons]
        simp only [Sem.run_bind, hr, Result.andThen_ok, hrs, Sem.run_pure]
      · match i with
        | 0 => simp only [List.getElem?_cons_zero, Option.some.injEq] at hi; subst hi; exact ⟨cv, rfl, hv⟩
        | i + 1 => simpa using hvs i r (by simpa using hi)
    · cases h

theorem results_sound (hT : TOK P T) (hs : SR C s S σ a w) {fn : Func} {v : AV} (h : resultsA T fn.results.toList s = some v) : ∃ cv, (results fn a.tmps).run P w = .ok cv w ∧ AVR w S σ s.nx v cv := by
  unfold resultsA at h
  have key : ∀ rs, resAll T s fn.results.toList = some rs → ∃ vs : Array Value, (results fn a.tmps).run P w = .ok (if h : vs.size = 1 then vs[0] else .tuple vs) w ∧ vs.size = rs.length ∧ ∀ (i : Nat) r, rs[i]? = some r → ∃ v, vs[i]? = some v ∧ RVR w S σ s.nx r v := by
    intro rs hrs
    obtain ⟨vs, h1, h2, h3⟩ := resAll_sound hT hs _ _ hrs
    refine ⟨vs.toArray, ?_, by simpa using h2, fun i r hi => by simpa using h3 i r hi⟩
    have hfun : (fun x : ResultVar => (match x with | .tmp t => (pure (a.tmps.getD t undef) : Sem Value) | .cell y t => do loadVar t (← asAddr (a.tmps.getD y undef)))) = readRes a.tmps := by
      funext x
      cases x <;> rfl
    have : results fn a.tmps = (do let vs ← fn.results.mapM (readRes a.tmps); pure (if h : vs.size = 1 then vs[0] else .tuple vs) : Sem Value) := by
      unfold results
      congr 1
    rw [this, Array.mapM_eq_mapM_toList]
    simp only [map_eq_pure_bind, bind_assoc, pure_bind, Sem.run_bind, h1, Result.andThen_ok, Sem.run_pure]
  split at h
  · rename_i r hr
    simp only [Option.some.injEq] at h
    subst h
    obtain ⟨vs, h1, h2, h3⟩ := key _ hr
    obtain ⟨cv, h4, h5⟩ := h3 0 r rfl
    refine ⟨_, h1, ?_⟩
    have : vs.size = 1 := h2
    rw [dif_pos this]
    obtain ⟨hlt, he⟩ := Array.getElem?_eq_some_iff.1 h4
    rw [he]
    exact .one h5
  · rename_i l hne hl
    simp only [Option.some.injEq] at h
    subst h
    obtain ⟨vs, h1, h2, h3⟩ := key _ hl
    refine ⟨_, h1, ?_⟩
    rw [dif_neg]
    · exact .tup h2 h3
    · intro h4
      rw [h2] at h4
      match l, h4, hne with
      | [r], _, hne => exact hne r rfl
  · cases h

theorem belowAll_iff {m : Nat} : ∀ {l : List Nat}, belowAll m l = true ↔ ∀ i ∈ l, i < m
  | [] => by simp [belowAll]
  | i :: r => by simp only [belowAll, Bool.and_eq_true, List.mem_cons, forall_eq_or_imp, belowAll_iff (l := r), Nat.blt_eq]

section
variable {m : Nat} {S' : Nat → Prop}

/-- Which blocks may be read afterwards. -/
structure Grows (s : AS) (S S' : Nat → Prop) (σ : Nat → Value) (m : Nat) : Prop where
  le : ∀ b, S b → S' b
  obj : ∀ id o b, m ≤ id → s.hp id = some o → blk (σ id) = some b → S' b

theorem frzL_sound (hs : SR C s S σ a w) (hg : Grows s S S' σ m) {x : LV} {v : Value} (hv : LVR w S σ s.nx x v) {p : LV} (h : frzL m s.hp x = some p) : LVR w S' σ m p v := by
  have mono : ∀ {p v}, PVR w S p v → PVR w S' p v := fun h => h.mono (fun _ _ => rfl) hg.le
  unfold frzL at h
  split at h
  · simp only [Option.some.injEq] at h
    subst h
    cases hv with | pv h => exact .pv (mono h)
  · simp only [Option.some.injEq] at h
    subst h
    cases hv with | any _ h => exact .any _ h
  · rename_i id
    split at h
    · rename_i hlt
      simp only [Option.some.injEq] at h
      subst h
      rw [Nat.blt_eq] at hlt
      cases hv with | sl _ h1 => exact .sl hlt h1
    · rename_i hlt
      have hge : m ≤ id := by
        rcases Nat.lt_or_ge id m with h1 | h1
        · have : Nat.blt id m = true := by rw [Nat.blt_eq]; exact h1
          rw [this] at hlt; cases hlt
        · exact h1
      split at h
      · rename_i t sz rows hid
        simp only [Option.some.injEq] at h
        subst h
        refine .pv ?_
        cases hv with
        | sl hlt _ =>
          obtain ⟨hl, xs, how, h1, hx⟩ := row_open hs hid
          rcases how.2 with ⟨h4, h5⟩ | ⟨g, cap, cur, h4, _, hh, hle, hm, _, htake⟩
          · have hr : rows = [] := List.eq_nil_of_length_eq_zero h5
            subst hr
            rw [h4]
            exact .vs sz [] none 0 (fun _ _ => undef) (Nat.le_refl _) (by omega) (fun _ => rfl) (by simp) (fun h => absurd rfl h) (by simp) (by simp)
          · have hown := hg.obj id _ g hge hid (by rw [h4]; rfl)
            rw [h4]
            refine .vs sz rows (some ⟨g, 0, none⟩) cap (fun i j => (xs[i * sz + j]?).getD undef) hle (by unfold maxLen at hm; exact hm) (fun h => by cases h) hl (fun _ => ⟨g, 0, rfl, hown, fun i j hi hj => ?_⟩) (fun i j hi hj => ?_) (fun i j r p hi hj => ?_)
            · have hlt : i * sz + j < xs.length := by rw [how.1]; exact flat_lt hi hj
              have hget : xs[i * sz + j]? = some xs[i * sz + j] := List.getElem?_eq_getElem hlt
              simp only [hget, Option.getD_some]
              have := how.cells (g := g) (by rw [h4]; rfl) _ _ hget
              simpa [add_lit] using this
            · have hlt : i * sz + j < xs.length := by rw [how.1]; exact flat_lt hi hj
              rw [List.getElem?_eq_getElem hlt]
              exact h1 _ (List.getElem_mem hlt)
            · obtain ⟨v, h2, h3⟩ := hx i j r p hi hj
              rw [h2]
              exact mono h3
      · cases h
  · split at h
    · rename_i hb
      simp only [Option.some.injEq] at h
      subst h
      exact hv.away (fun _ _ => rfl) hg.le fun i hi => ⟨belowAll_iff.1 hb i hi, rfl⟩
    · cases h

theorem frzLs_sound (hs : SR C s S σ a w) (hg : Grows s S S' σ m) : ∀ (xs ps : List LV), frzLs m s.hp xs = some ps → ps.length = xs.length ∧ ∀ (i : Nat) x v, xs[i]? = some x → LVR w S σ s.nx x v → ∃ p, ps[i]? = some p ∧ LVR w S' σ m p v
  | [], ps, h => by simp only [frzLs, Option.some.injEq] at h; subst h; exact ⟨rfl, by simp⟩
  | x :: r, ps, h => by
    simp only [frzLs] at h
    split at h
    · rename_i p l h1 h2
      simp only [Option.some.injEq] at h
      subst h
      obtain ⟨h3, h4⟩ := frzLs_sound hs hg r l h2
      refine ⟨by simp [h3], fun i y v hy hv => ?_⟩
      match i with
      | 0 => simp only [List.getElem?_cons_zero, Option.some.injEq] at hy; subst hy; exact ⟨p, rfl, frzL_sound hs hg hv h1⟩
      | i + 1 => simpa using h4 i y v (by simpa using hy) hv
    · cases h
theorem frzLs_ls (hs : SR C s S σ a w) (hg : Grows s S S' σ m) {xs l : List LV} {vs : Array Value} (hv : LsR w S σ s.nx xs vs) (hl : frzLs m s.hp xs = some l) : LsR w S' σ m l vs := by
  obtain ⟨h1, h2⟩ := frzLs_sound hs hg xs l hl
  refine ⟨by rw [h1]; exact hv.1, fun i x hx => ?_⟩
  have hlt : i < xs.length := by rw [← h1]; exact (List.getElem?_eq_some_iff.1 hx).1
  obtain ⟨v, h3, h4⟩ := hv.2 i _ (List.getElem?_eq_getElem hlt)
  obtain ⟨p', h5, h6⟩ := h2 i _ v (List.getElem?_eq_getElem hlt) h4
  rw [hx] at h5
  simp only [Option.some.injEq] at h5
  subst h5
  exact ⟨v, h3, h6⟩

theorem frzR_sound (hs : SR C s S σ a w) (hg : Grows s S S' σ m) {x r : RV} {v : Value} (hv : RVR w S σ s.nx x v) (h : frzR m s.hp x = some r) : RVR w S' σ m r v := by
  unfold frzR at h
  split at h
  · split at h
    · rename_i p hp
      simp only [Option.some.injEq] at h
      subst h
      cases hv with
      | any => simp only [frzL, Option.some.injEq] at hp; subst hp; exact .any v
      | lf hv => exact .lf (frzL_sound hs hg hv hp)
    · cases h
  · split at h
    · rename_i l hl
      simp only [Option.some.injEq] at h
      subst h
      cases hv with | agg hv => exact .agg (frzLs_ls hs hg hv hl)
    · cases h

theorem frzRs_sound (hs : SR C s S σ a w) (hg : Grows s S S' σ m) : ∀ (xs ps : List RV), frzRs m s.hp xs = some ps → ps.length = xs.length ∧ ∀ (i : Nat) x v, xs[i]? = some x → RVR w S σ s.nx x v → ∃ p, ps[i]? = some p ∧ RVR w S' σ m p v
  | [], ps, h => by simp only [frzRs, Option.some.injEq] at h; subst h; exact ⟨rfl, by simp⟩
  | x :: r, ps, h => by
    simp only [frzRs] at h
    split at h
    · rename_i p l h1 h2
      simp only [Option.some.injEq] at h
      subst h
      obtain ⟨h3, h4⟩ := frzRs_sound hs hg r l h2
      refine ⟨by simp [h3], fun i y v hy hv => ?_⟩
      match i with
      | 0 => simp only [List.getElem?_cons_zero, Option.some.injEq] at hy; subst hy; exact ⟨p, rfl, frzR_sound hs hg hv h1⟩
      | i + 1 => simpa using h4 i y v (by simpa using hy) hv
    · cases h

theorem frzA_sound (hs : SR C s S σ a w) (hg : Grows s S S' σ m) {x r : AV} {v : Value} (hv : AVR w S σ s.nx x v) (h : frzA m s.hp x = some r) : AVR w S' σ m r v := by
  unfold frzA at h
  split at h
  · split at h
    · rename_i hr
      simp only [Option.some.injEq] at h
      subst h
      cases hv with | one hv => exact .one (frzR_sound hs hg hv hr)
    · cases h
  · rename_i rs
    split at h
    · rename_i l hl
      simp only [Option.some.injEq] at h
      subst h
      cases hv with
      | @tup rs vs hn hv =>
        obtain ⟨h1, h2⟩ := frzRs_sound hs hg rs l hl
        refine .tup (by rw [h1]; exact hn) fun i r hr => ?_
        have hlt : i < rs.length := by rw [← h1]; exact (List.getElem?_eq_some_iff.1 hr).1
        obtain ⟨v, h3, h4⟩ := hv i _ (List.getElem?_eq_getElem hlt)
        obtain ⟨p', h5, h6⟩ := h2 i _ v (List.getElem?_eq_getElem hlt) h4
        rw [hr] at h5
        simp only [Option.some.injEq] at h5
        subst h5
        exact ⟨v, h3, h6⟩
    · cases h
end

/-- A function of values, told by what its result is like. -/
def AFunR (P : Program) (g : Nat) (args : List AV) (R : AV → Prop) : Prop :=
  Ent P g ∧ ∀ (w : World) (S : Nat → Prop), (∀ b, S b → b < w.heap.size) → ∀ vs : Array Value, vs.size = args.length → (∀ (i : Nat) (x : AV), args[i]? = some x → ∃ v, vs[i]? = some v ∧ AVR w S (fun _ => undef) 0 x v) →
    Calls P g vs w fun e w' => ∃ v r, R r ∧ e = .returned v ∧ Below w.heap.size w w' ∧ AVR w' (fun b => S b ∨ (w.heap.size ≤ b ∧ b < w'.heap.size)) (fun _ => undef) 0 r v
theorem AFunR.afun {g : Nat} {args : List AV} {r : AV} (h : AFunR P g args (· = r)) : AFun P g args r :=
  ⟨h.1, fun w S hS vs hn hv => (h.2 w S hS vs hn hv).mono fun e w' ⟨v, r', e1, e2, e3, e4⟩ => by subst e1; exact ⟨v, e2, e3, e4⟩⟩
theorem AFunR.mono {g : Nat} {args : List AV} {R R' : AV → Prop} (h : AFunR P g args R) (hr : ∀ r, R r → R' r) : AFunR P g args R' :=
  ⟨h.1, fun w S hS vs hn hv => (h.2 w S hS vs hn hv).mono fun e w' ⟨v, r', e1, e2, e3, e4⟩ => ⟨v, r', hr _ e1, e2, e3, e4⟩⟩

theorem start_sr {w : World} {S : Nat → Prop} {args : List AV} {n : Nat} {vs : Array Value} (hS : ∀ b, S b → b < w.heap.size) (hn : vs.size = args.length) (hle : args.length ≤ n) (hv : ∀ (i : Nat) (x : AV), args[i]? = some x → ∃ v, vs[i]? = some v ∧ AVR w S (fun _ => undef) 0 x v) :
    SR ⟨w, S, fun _ => False, fun _ => undef⟩ (AS.start args n) S (fun _ => undef) { tmps := vs ++ Array.replicate (n - vs.size) undef, defers := [] } w := by
  refine ⟨by simp [AS.start]; omega, rfl, fun i => ?_, ⟨fun _ _ h => (by simp [AS.start] at h), fun _ _ h => (by simp [AS.start] at h), fun _ _ _ h => (by simp [AS.start] at h), fun _ _ _ h => (by simp [AS.start] at h), fun _ _ _ _ _ h => (by simp [AS.start] at h)⟩, hS, fun _ h => h, ⟨rfl, rfl, rfl, Nat.le_refl _, fun _ _ _ => rfl⟩, Nat.le_refl _, fun id h => by simp [AS.start] at h, fun b h => .inl h⟩
  simp only [AS.start]
  cases hx : args[i]? with
  | none => exact .one (.any _)
  | some x =>
    obtain ⟨v, h1, h2⟩ := hv i x hx
    have hlt : i < vs.size := (Array.getElem?_eq_some_iff.1 h1).1
    simp only [Array.getD_eq_getD_getElem?, Array.getElem?_append_left hlt, h1, Option.getD_some]
    exact h2

theorem afun_sem (hT : TOK P T) {g : Nat} {fn : Func} {c : Code} (hf : P.funcs[g]? = some fn) (hb : fn.body = some c) (hent : Ent P g) {args : List AV} {R : AV → Prop} (hle : args.length ≤ fn.ntmps)
    (h : Wlk P c (AS.start args fn.ntmps) (Ends T fn R)) : AFunR P g args R := by
  refine ⟨hent, fun w S hS vs hn hv => ?_⟩
  refine calls_of_wp hf hb (wp_mono (h.run _ _ w ⟨S, _, start_sr hS hn hle hv⟩) ?_)
  rintro e a' w' ⟨s', ⟨h1, h2⟩, S', σ', hs'⟩
  have fin : a'.defers = [] ∧ ∃ v, (results fn a'.tmps).run P w' = .ok v w' ∧ ∃ v' r, R r ∧ Ending.returned v = .returned v' ∧ Below w.heap.size w w' ∧ AVR w' (fun b => S b ∨ (w.heap.size ≤ b ∧ b < w'.heap.size)) (fun _ => undef) 0 r v' := by
    refine ⟨hs'.defers, ?_⟩
    split at h2
    · rename_i v hv
      split at h2
      · rename_i r hr
        obtain ⟨cv, h3, h4⟩ := results_sound hT hs' hv
        refine ⟨cv, h3, cv, r, h2, rfl, ?_, ?_⟩
        · have := hs'.keep
          exact ⟨this.os, this.tape, this.output, this.size, fun k hk => this.block k hk (fun h => h)⟩
        · have hg : Grows s' S' (fun b => S b ∨ (w.heap.size ≤ b ∧ b < w'.heap.size)) σ' 0 := by
            refine ⟨fun b hb => ?_, fun id o b _ ho hb => ?_⟩
            · rcases hs'.up b hb with h5 | h5 | h5
              · exact .inl h5
              · exact .inr ⟨h5, hs'.lt b hb⟩
              · exact h5.elim
            · exact .inr ⟨(hs'.hp.own id o b ho hb).resolve_left (fun h => h), blk_lt (hs'.hp.obj id o ho) hb⟩
          exact (frzA_sound hs' hg h4 hr).mono (fun _ _ => rfl) (fun b hb => hb) (fun i hi => absurd hi (Nat.not_lt_zero _)) (Nat.le_refl _)
      · exact h2.elim
    · exact h2.elim
  cases e with
  | normal => exact fin
  | ret => exact fin
  | _ => exact h1.elim

theorem afun_body (hT : TOK P T) (hm : P.follows .mixedOrders = true) {g : Nat} {fn : Func} {c : Code} (hf : P.funcs[g]? = some fn) (hb : fn.body = some c) (hent : Ent P g) {args : List AV} {R : AV → Prop} (hle : args.length ≤ fn.ntmps)
    (h : vcCode P T c (AS.start args fn.ntmps) (Ends T fn R)) : AFunR P g args R := afun_sem hT hf hb hent hle (sem_vc hT hm h)

end
end Go.Proofs.Ytijjagkeaehhbaa.Eng
