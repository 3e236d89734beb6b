/- The engine: states that say less; small ends. -/
import Derived.Test.YtijjagkeaehhbaaEngS
import Derived.IntWalk
set_option linter.unusedSimpArgs false
set_option linter.unusedVariables false
namespace Go.Proofs.Ytijjagkeaehhbaa.Eng
open Go.RowKit (Below)

theorem ent_of {P : Program} {g : Nat} {fn : Func} (hf : P.funcs[g]? = some fn) (hname : (fn.name == "runtime.NumGoroutine") = false) (hb : fn.body.isSome = true) : Ent P g := by
  intro args w
  have h1 : fn.name ≠ "runtime.NumGoroutine" := by simpa using hname
  obtain ⟨c, hc⟩ := Option.isSome_iff_exists.1 hb
  simp [callFunc, hf, h1, hc]
theorem ok_op {s : AS} {id : Nat} {o : Oper} (h : opOk s id o = true) : opOk s id o = true := h
theorem ok_tr {ops : Array Oper} {b : Nat} {τ : List Ef} (h : okTrace ops b τ = true) : okTrace ops b τ = true := h
structure Fin (p : Prop) : Prop where
  out : p
theorem fin_to {x y z : AV} (h : x = y) (h' : Fin (y = z)) : x = z := h.trans h'.out
theorem fin_b {x y : Bool} (h : x = y) : AV.b x = AV.b y := by rw [h]
theorem fin_i {x y : Int} (h : x = y) : AV.i x = AV.i y := by rw [h]
theorem fin_k {k : IntKind} {x y : Int} (h : x = y) : AV.pv (.int k x) = AV.pv (.int k y) := by rw [h]
theorem fin_vs {sz : Nat} {x y : List (List PV)} (h : x = y) : AV.pv (.vs sz x) = AV.pv (.vs sz y) := by rw [h]
theorem fin_agg {x y : List LV} (h : x = y) : AV.agg x = AV.agg y := by rw [h]
theorem fin_tup {x y : List RV} (h : x = y) : AV.tup x = AV.tup y := by rw [h]

/-- A state by lists. -/
def AS.of (L : List AV) (H : List (Option AObj)) (nx n n0 : Nat) (c0 : Nat → Bool) : AS :=
  { fr := fun i => match L[i]? with | some v => v | none => .any
    hp := fun i => match H[i]? with | some o => o | none => none
    nx := nx, n := n, n0 := n0, c0 := c0 }

def isAny : AV → Bool
  | .one (.lf .any) => true
  | _ => false
def isAnyL : LV → Bool
  | .any => true
  | _ => false
def frW (s : AS) (nx : Nat) : Nat → List AV → Prop
  | _, [] => True
  | k, x :: r => (match isAny x with | true => True | false => x = s.fr k ∧ belowAll nx x.ids = true) ∧ frW s nx (k + 1) r
def csW (nx : Nat) : List LV → List LV → Prop
  | [], [] => True
  | x :: r, y :: r' => (match isAnyL x with | true => True | false => x = y ∧ belowAll nx x.ids = true) ∧ csW nx r r'
  | _, _ => False
def obW (nx : Nat) : AObj → AObj → Prop
  | .box t cs, .box t' cs' => t = t' ∧ csW nx cs cs'
  | .row t sz rows, o => AObj.row t sz rows = o
  | _, _ => False
def hpW (s : AS) (nx : Nat) : Nat → List (Option AObj) → Prop
  | _, [] => True
  | k, x :: r => (match x with | none => True | some o => Nat.blt k nx = true ∧ (match s.hp k with | some o' => obW nx o o' | none => False)) ∧ hpW s nx (k + 1) r

theorem Weak.trans {a b c : AS} (h : Weak a b) (h' : Weak b c) : Weak a c := fun C x w hs => h' C x w (h C x w hs)
theorem Weak.refl (a : AS) : Weak a a := fun _ _ _ h => h

section
variable {C : Ctx} {s : AS} {S : Nat → Prop} {σ : Nat → Value} {a : Act} {w : World}

theorem frW_spec {nx : Nat} : ∀ (L : List AV) (k : Nat), frW s nx k L → ∀ (i : Nat) x, L[i]? = some x → isAny x = true ∨ (x = s.fr (k + i) ∧ ∀ j ∈ x.ids, j < nx)
  | [], _, _, i, x, h => by simp at h
  | y :: r, k, hw, i, x, h => by
    obtain ⟨h1, h2⟩ := hw
    match i with
    | 0 =>
      simp only [List.getElem?_cons_zero, Option.some.injEq] at h
      subst h
      split at h1
      · exact .inl (by assumption)
      · exact .inr ⟨h1.1, belowAll_iff.1 h1.2⟩
    | i + 1 =>
      have := frW_spec r (k + 1) h2 i x (by simpa using h)
      rw [show k + (i + 1) = k + 1 + i from by omega]
      exact this
theorem hpW_spec {nx : Nat} : ∀ (H : List (Option AObj)) (k : Nat), hpW s nx k H → ∀ (i : Nat) o, H[i]? = some (some o) → k + i < nx ∧ ∃ o', s.hp (k + i) = some o' ∧ obW nx o o'
  | [], _, _, i, x, h => by simp at h
  | y :: r, k, hw, i, o, h => by
    obtain ⟨h1, h2⟩ := hw
    match i with
    | 0 =>
      simp only [List.getElem?_cons_zero, Option.some.injEq] at h
      subst h
      simp only at h1
      obtain ⟨h3, h4⟩ := h1
      rw [Nat.blt_eq] at h3
      split at h4
      · rename_i o' ho'
        exact ⟨h3, o', ho', h4⟩
      · exact h4.elim
    | i + 1 =>
      have := hpW_spec r (k + 1) h2 i o (by simpa using h)
      rw [show k + (i + 1) = k + 1 + i from by omega]
      exact this

theorem AVR.isAny {x : AV} (h : isAny x = true) (v : Value) {w S σ n} : AVR w S σ n x v := by
  unfold Eng.isAny at h
  split at h
  · exact .one (.any v)
  · cases h

theorem csW_ls {nx : Nat} : ∀ {cs cs' : List LV}, csW nx cs cs' → cs.length = cs'.length ∧ ∀ (i : Nat) x y, cs[i]? = some x → cs'[i]? = some y → isAnyL x = true ∨ (x = y ∧ ∀ j ∈ x.ids, j < nx)
  | [], [], _ => ⟨rfl, by simp⟩
  | x :: r, y :: r', h => by
    obtain ⟨h1, h2⟩ := csW_ls h.2
    refine ⟨by simp [h1], fun i u v hu hv => ?_⟩
    match i with
    | 0 =>
      simp only [List.getElem?_cons_zero, Option.some.injEq] at hu hv
      subst hu hv
      have := h.1
      split at this
      · exact .inl (by assumption)
      · exact .inr ⟨this.1, belowAll_iff.1 this.2⟩
    | i + 1 => exact h2 i u v (by simpa using hu) (by simpa using hv)
  | [], _ :: _, h => h.elim
  | _ :: _, [], h => h.elim

theorem obW_obj {nx id : Nat} {o o' : AObj} (h : obW nx o o') (ho : ObjR w S σ s.nx id o') : ObjR w S σ nx id o := by
  unfold obW at h
  split at h
  · rename_i t cs t' cs'
    obtain ⟨rfl, h⟩ := h
    obtain ⟨h1, h2⟩ := csW_ls h
    obtain ⟨b, vs, h3, h4, h5⟩ := ho
    refine ⟨b, vs, h3, h4, by rw [h1]; exact h5.1, fun i x hx => ?_⟩
    have hlt : i < cs'.length := by rw [← h1]; exact (List.getElem?_eq_some_iff.1 hx).1
    obtain ⟨v, h6, h7⟩ := h5.2 i _ (List.getElem?_eq_getElem hlt)
    refine ⟨v, h6, ?_⟩
    rcases h2 i x _ hx (List.getElem?_eq_getElem hlt) with h8 | ⟨h8, h9⟩
    · unfold isAnyL at h8
      split at h8
      · exact .any v h7.one
      · cases h8
    · rw [h8] at h9 ⊢
      exact h7.away (fun _ _ => rfl) (fun _ h => h) fun j hj => ⟨h9 j hj, rfl⟩
  · subst h; exact ho
  · exact h.elim

theorem weak_list {L : List AV} {H : List (Option AObj)} {nx n n0 : Nat} {c0 : Nat → Bool} (hn : s.n = n) (hn0 : s.n0 = n0) (hc : s.c0 = c0) (hle : Nat.ble n0 nx = true) (hf : frW s nx 0 L) (hh : hpW s nx 0 H) : Weak s (AS.of L H nx n n0 c0) := by
  rintro C a w ⟨S, σ, hs⟩
  have get : ∀ id o, (AS.of L H nx n n0 c0).hp id = some o → id < nx ∧ ∃ o', s.hp id = some o' ∧ obW nx o o' := by
    intro id o ho
    simp only [AS.of] at ho
    split at ho
    · rename_i o' ho'
      subst ho
      have := hpW_spec H 0 hh id o ho'
      rwa [Nat.zero_add] at this
    · cases ho
  refine ⟨S, σ, ⟨hs.size.trans hn, hs.defers, fun i => ?_, ⟨fun id o ho => (get id o ho).1, fun id o ho => ?_, fun id o b ho => ?_, fun id o b ho => ?_, fun id id' o o' b ho ho' => ?_⟩, hs.lt, hs.le, hs.keep, Nat.le_of_ble_eq_true hle, fun id h1 h2 => hs.hs id (by rw [hn0]; exact h1) (by rw [hc]; exact h2), hs.up⟩⟩
  · simp only [AS.of]
    split
    · rename_i v hv
      rcases frW_spec L 0 hf i v hv with h1 | ⟨h1, h2⟩
      · exact AVR.isAny h1 _
      · have := hs.fr i
        rw [Nat.zero_add] at h1
        rw [h1] at h2 ⊢
        exact this.away (fun _ _ => rfl) (fun _ h => h) fun j hj => ⟨h2 j hj, rfl⟩
    · exact .one (.any _)
  · obtain ⟨h1, o', h2, h3⟩ := get id o ho
    exact obW_obj h3 (hs.hp.obj id o' h2)
  · obtain ⟨h1, o', h2, h3⟩ := get id o ho
    exact hs.hp.notS id o' b h2
  · obtain ⟨h1, o', h2, h3⟩ := get id o ho
    exact hs.hp.own id o' b h2
  · obtain ⟨_, o1, h2, _⟩ := get id o ho
    obtain ⟨_, o2, h4, _⟩ := get id' o' ho'
    exact hs.hp.inj id id' o1 o2 b h2 h4

/-- A nil slice in a slot as an empty row of one's own. -/
def AS.adopt (s : AS) (d t sz : Nat) : AS :=
  { s with fr := fun i => bif Nat.beq i d then .lv (.sl s.nx) else s.fr i, hp := fun j => bif Nat.beq j s.nx then some (.row t sz []) else s.hp j, nx := s.nx + 1 }
/-- A nil slice in a variable likewise. -/
def AS.adoptC (s : AS) (id k t sz : Nat) : AS :=
  { s with hp := fun j => bif Nat.beq j s.nx then some (.row t sz []) else bif Nat.beq j id then (match s.hp id with | some (.box tb cs) => some (.box tb (cs.set k (.sl s.nx))) | o => o) else s.hp j, nx := s.nx + 1 }

/-- An empty row of one's own, lying nowhere yet. -/
theorem SR.empty (hr : SR C s S σ a w) (t sz : Nat) : ∃ σ', SR C (s.new (.row t sz [])) S σ' a w ∧ σ' s.nx = .slice none 0 0 ∧ ∀ i, i < s.nx → σ' i = σ i := by
  let σ' : Nat → Value := fun i => if i = s.nx then .slice none 0 0 else σ i
  have hσ : ∀ i, i < s.nx → σ' i = σ i := fun i hi => if_neg (by omega)
  have hσn : σ' s.nx = .slice none 0 0 := if_pos rfl
  have get : ∀ id q, (s.new (.row t sz [])).hp id = some q → (id = s.nx ∧ q = .row t sz []) ∨ (id < s.nx ∧ s.hp id = some q) := by
    intro id q hq
    simp only [AS.new] at hq
    by_cases e : id = s.nx
    · subst e
      rw [Nat.beq_refl] at hq
      simp only [cond_true, Option.some.injEq] at hq
      exact .inl ⟨rfl, hq.symm⟩
    · rw [beq_ne e] at hq
      exact .inr ⟨hr.hp.lt id q hq, hq⟩
  refine ⟨σ', ⟨hr.size, hr.defers, fun i => (hr.fr i).mono (fun _ _ => rfl) (fun _ h => h) hσ (Nat.le_succ _), ⟨?_, ?_, ?_, ?_, ?_⟩, hr.lt, hr.le, hr.keep, Nat.le_succ_of_le hr.nx, ?_, hr.up⟩, hσn, hσ⟩
  · intro id q hq
    rcases get id q hq with ⟨rfl, _⟩ | ⟨h, _⟩
    · exact Nat.lt_succ_self _
    · exact Nat.lt_succ_of_lt h
  · intro id q hq
    rcases get id q hq with ⟨rfl, rfl⟩ | ⟨h, h1⟩
    · refine ⟨by simp, [], ?_, by simp, by simp⟩
      rw [hσn]
      exact ⟨by simp, .inl ⟨rfl, rfl⟩⟩
    · exact (hr.hp.obj id q h1).mono (fun _ _ => rfl) (fun _ h => h) hσ (Nat.le_succ _) h (fun _ _ => rfl)
  · intro id q b hq hb
    rcases get id q hq with ⟨rfl, rfl⟩ | ⟨h, h1⟩
    · rw [hσn] at hb; cases hb
    · rw [hσ id h] at hb; exact hr.hp.notS id q b h1 hb
  · intro id q b hq hb
    rcases get id q hq with ⟨rfl, rfl⟩ | ⟨h, h1⟩
    · rw [hσn] at hb; cases hb
    · rw [hσ id h] at hb; exact hr.hp.own id q b h1 hb
  · intro id id' q q' b hq hq' hb hb'
    rcases get id q hq with ⟨rfl, rfl⟩ | ⟨h, h1⟩
    · rw [hσn] at hb; cases hb
    · rcases get id' q' hq' with ⟨rfl, rfl⟩ | ⟨h', h1'⟩
      · rw [hσn] at hb'; cases hb'
      · rw [hσ id h] at hb
        rw [hσ id' h'] at hb'
        exact hr.hp.inj id id' q q' b h1 h1' hb hb'
  · intro id h1 h2
    have : id < s.nx := Nat.lt_of_lt_of_le h1 hr.nx
    rw [hσ id this]
    exact hr.hs id h1 h2

theorem weak_adopt {d t sz : Nat} (h : s.fr d = .pv .nils) : Weak s (s.adopt d t sz) := by
  rintro C a w ⟨S, σ, hs⟩
  obtain ⟨σ', hs', hσ, _⟩ := hs.empty t sz
  refine ⟨S, σ', ⟨hs'.size, hs'.defers, fun i => ?_, hs'.hp, hs'.lt, hs'.le, hs'.keep, hs'.nx, hs'.hs, hs'.up⟩⟩
  simp only [AS.adopt]
  by_cases e : i = d
  · subst e
    rw [Nat.beq_refl]
    have := hs.fr i
    rw [h] at this
    rw [this.nils_inv, ← hσ]
    exact .one (.lf (.sl (Nat.lt_succ_self _) (by rw [hσ]; rfl)))
  · rw [beq_ne e]
    exact hs'.fr i

theorem weak_adoptC {id k tb t sz : Nat} {cs : List LV} (h : s.hp id = some (.box tb cs)) (hk : cs[k]? = some (.pv .nils)) : Weak s (s.adoptC id k t sz) := by
  rintro C a w ⟨S, σ, hs⟩
  obtain ⟨σ', hs', hσ, hold⟩ := hs.empty t sz
  have hid : id < s.nx := hs.hp.lt id _ h
  have get : ∀ j o, (s.adoptC id k t sz).hp j = some o → (∃ o', (s.new (.row t sz [])).hp j = some o') ∧ ((s.new (.row t sz [])).hp j = some o ∨ (j = id ∧ o = .box tb (cs.set k (.sl s.nx)))) := by
    intro j o ho
    simp only [AS.adoptC, h] at ho
    simp only [AS.new]
    by_cases e : j = s.nx
    · subst e
      rw [Nat.beq_refl] at ho ⊢
      exact ⟨⟨o, ho⟩, .inl ho⟩
    · rw [beq_ne e] at ho ⊢
      simp only [cond_false] at ho ⊢
      by_cases e' : j = id
      · subst e'
        rw [Nat.beq_refl] at ho
        simp only [cond_true, Option.some.injEq] at ho
        exact ⟨⟨_, h⟩, .inr ⟨rfl, ho.symm⟩⟩
      · rw [beq_ne e'] at ho
        exact ⟨⟨o, ho⟩, .inl ho⟩
  refine ⟨S, σ', ⟨hs'.size, hs'.defers, hs'.fr, ⟨fun j o ho => ?_, fun j o ho => ?_, fun j o b ho => ?_, fun j o b ho => ?_, fun j j' o o' b ho ho' => ?_⟩, hs'.lt, hs'.le, hs'.keep, hs'.nx, hs'.hs, hs'.up⟩⟩
  · obtain ⟨⟨o', h1⟩, _⟩ := get j o ho; exact hs'.hp.lt j o' h1
  · obtain ⟨⟨o', h1⟩, h2 | ⟨rfl, rfl⟩⟩ := get j o ho
    · exact hs'.hp.obj j o h2
    · have hb : (s.new (.row t sz [])).hp j = some (.box tb cs) := by
        simp only [AS.new, beq_ne (show j ≠ s.nx by omega), cond_false]; exact h
      obtain ⟨b, vs, h3, h4, h5⟩ := hs'.hp.obj j _ hb
      refine ⟨b, vs, h3, h4, by rw [List.length_set]; exact h5.1, fun i x hx => ?_⟩
      rw [List.getElem?_set] at hx
      split at hx
      · rename_i hik
        subst hik
        split at hx
        · simp only [Option.some.injEq] at hx
          subst hx
          obtain ⟨v, h6, h7⟩ := h5.2 k _ hk
          refine ⟨v, h6, ?_⟩
          cases h7 with
          | pv h7 =>
            cases h7 with
            | nils =>
              have : Value.slice none 0 0 = σ' s.nx := hσ.symm
              rw [this]
              exact .sl (Nat.lt_succ_self _) (by rw [hσ]; rfl)
        · cases hx
      · exact h5.2 i x hx
  · obtain ⟨⟨o', h1⟩, _⟩ := get j o ho; exact hs'.hp.notS j o' b h1
  · obtain ⟨⟨o', h1⟩, _⟩ := get j o ho; exact hs'.hp.own j o' b h1
  · obtain ⟨⟨o1, h1⟩, _⟩ := get j o ho
    obtain ⟨⟨o2, h2⟩, _⟩ := get j' o' ho'
    exact hs'.hp.inj j j' o1 o2 b h1 h2


/-- A state by what it bears. -/
def look : List (Nat × AV) → Nat → AV
  | [], _ => .any
  | (k, x) :: r, i => bif Nat.beq i k then x else look r i
def lookO : List (Nat × AObj) → Nat → Option AObj
  | [], _ => none
  | (k, x) :: r, i => bif Nat.beq i k then some x else lookO r i
def AS.on (L : List (Nat × AV)) (H : List (Nat × AObj)) (nx n n0 : Nat) (c0 : Nat → Bool) : AS := { fr := look L, hp := lookO H, nx := nx, n := n, n0 := n0, c0 := c0 }
def onW (s : AS) (nx : Nat) : List (Nat × AV) → Prop
  | [] => True
  | (k, x) :: r => (x = s.fr k ∧ belowAll nx x.ids = true) ∧ onW s nx r
def onH (s : AS) (nx : Nat) : List (Nat × AObj) → Prop
  | [] => True
  | (k, o) :: r => (Nat.blt k nx = true ∧ ∃ o', s.hp k = some o' ∧ obW nx o o') ∧ onH s nx r
theorem onW_spec {nx : Nat} : ∀ (L : List (Nat × AV)), onW s nx L → ∀ i, look L i = .any ∨ (look L i = s.fr i ∧ ∀ j ∈ (s.fr i).ids, j < nx)
  | [], _, i => .inl rfl
  | (k, x) :: r, h, i => by
    simp only [look]
    by_cases e : i = k
    · subst e
      rw [Nat.beq_refl]
      exact .inr ⟨h.1.1, by rw [← h.1.1]; exact belowAll_iff.1 h.1.2⟩
    · rw [beq_ne e]
      exact onW_spec r h.2 i
theorem onH_spec {nx : Nat} : ∀ (H : List (Nat × AObj)), onH s nx H → ∀ i o, lookO H i = some o → i < nx ∧ ∃ o', s.hp i = some o' ∧ obW nx o o'
  | [], _, i, o, h => by cases h
  | (k, x) :: r, h, i, o, ho => by
    simp only [lookO] at ho
    by_cases e : i = k
    · subst e
      rw [Nat.beq_refl] at ho
      simp only [cond_true, Option.some.injEq] at ho
      subst ho
      have := h.1.1
      rw [Nat.blt_eq] at this
      exact ⟨this, h.1.2⟩
    · rw [beq_ne e] at ho
      exact onH_spec r h.2 i o ho
theorem weak_on {L : List (Nat × AV)} {H : List (Nat × AObj)} {nx n n0 : Nat} {c0 : Nat → Bool} (hn : s.n = n) (hn0 : s.n0 = n0) (hc : s.c0 = c0) (hle : Nat.ble n0 nx = true) (hf : onW s nx L) (hh : onH s nx H) : Weak s (AS.on L H nx n n0 c0) := by
  rintro C a w ⟨S, σ, hs⟩
  have get : ∀ id o, (AS.on L H nx n n0 c0).hp id = some o → id < nx ∧ ∃ o', s.hp id = some o' ∧ obW nx o o' := fun id o ho => onH_spec H hh id o ho
  refine ⟨S, σ, ⟨hs.size.trans hn, hs.defers, fun i => ?_, ⟨fun id o ho => (get id o ho).1, fun id o ho => ?_, fun id o b ho => ?_, fun id o b ho => ?_, fun id id' o o' b ho ho' => ?_⟩, hs.lt, hs.le, hs.keep, Nat.le_of_ble_eq_true hle, fun id h1 h2 => hs.hs id (by rw [hn0]; exact h1) (by rw [hc]; exact h2), hs.up⟩⟩
  · show AVR w S σ nx (look L i) _
    rcases onW_spec L hf i with h1 | ⟨h1, h2⟩
    · rw [h1]; exact .one (.any _)
    · rw [h1]
      exact (hs.fr i).away (fun _ _ => rfl) (fun _ h => h) fun j hj => ⟨h2 j hj, rfl⟩
  · obtain ⟨h1, o', h2, h3⟩ := get id o ho
    exact obW_obj h3 (hs.hp.obj id o' h2)
  · obtain ⟨h1, o', h2, h3⟩ := get id o ho
    exact hs.hp.notS id o' b h2
  · obtain ⟨h1, o', h2, h3⟩ := get id o ho
    exact hs.hp.own id o' b h2
  · obtain ⟨_, o1, h2, _⟩ := get id o ho
    obtain ⟨_, o2, h4, _⟩ := get id' o' ho'
    exact hs.hp.inj id id' o1 o2 b h2 h4

theorem wrap_id {n : Int} (h0 : -9223372036854775808 ≤ n) (h1 : n ≤ 9223372036854775807) : IntKind.i64.wrap n = n := Go.IntWalk.i64_in n ⟨h0, h1⟩

end
end Go.Proofs.Ytijjagkeaehhbaa.Eng
