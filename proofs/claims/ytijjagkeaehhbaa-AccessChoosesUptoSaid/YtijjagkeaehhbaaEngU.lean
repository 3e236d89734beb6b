/- The engine: a call that writes what it is handed, told in its own names. -/
import Derived.Test.YtijjagkeaehhbaaEngT
set_option linter.unusedSimpArgs false
set_option linter.unusedVariables false
namespace Go.Proofs.Ytijjagkeaehhbaa.Eng
open Go.RowKit (Below)

def hpOf (objs : List AObj) : Nat → Option AObj := fun i => objs[i]?
/-- The blocks behind the handed objects. -/
def Bof (σ : Nat → Value) (m : Nat) : Nat → Prop := fun b => ∃ i, i < m ∧ blk (σ i) = some b

/-- A call in its own names: the arguments, the objects handed in, which handles may turn, what comes of them. -/
def CallF (P : Program) (g : Nat) (args : List AV) (objs : List AObj) (ch : Nat → Bool) (Q : AV → List AObj → Prop) : Prop :=
  Ent P g ∧ ∀ (w : World) (S : Nat → Prop) (σ : Nat → Value), (∀ b, S b → b < w.heap.size) → HR (Bof σ objs.length) w S σ objs.length (hpOf objs) →
    ∀ vs : Array Value, vs.size = args.length → (∀ (i : Nat) (x : AV), args[i]? = some x → ∃ v, vs[i]? = some v ∧ AVR w S σ objs.length x v) →
    Calls P g vs w fun e w' => ∃ v r objs' S' σ', Q r objs' ∧ e = .returned v ∧ objs'.length = objs.length ∧ Keeps w w' (Bof σ objs.length) ∧ (∀ b, S b → S' b) ∧ (∀ b, S' b → S b ∨ w.heap.size ≤ b ∨ Bof σ objs.length b) ∧ (∀ b, S' b → b < w'.heap.size) ∧
      HR (fun b => Bof σ objs.length b ∨ w.heap.size ≤ b) w' S' σ' objs.length (hpOf objs') ∧ (∀ i, i < objs.length → ch i = false → σ' i = σ i) ∧ AVR w' S' σ' objs.length r v

def AS.startF (args : List AV) (objs : List AObj) (n : Nat) (ch : Nat → Bool) : AS := { fr := fun i => match args[i]? with | some v => v | none => .any, hp := hpOf objs, nx := objs.length, n := n, n0 := objs.length, c0 := ch }
def frzO (m : Nat) (hp : Nat → Option AObj) : AObj → Option AObj
  | .box t cs => match frzLs m hp cs with | some l => some (.box t l) | none => none
  | o => some o
def gather (m : Nat) (hp : Nat → Option AObj) : Nat → Nat → Option (List AObj)
  | 0, _ => some []
  | k + 1, i => match hp i with
    | some o => match frzO m hp o, gather m hp k (i + 1) with | some o', some l => some (o' :: l) | _, _ => none
    | none => none
def EndsF (T : Tab) (fn : Func) (m : Nat) (ch : Nat → Bool) (Q : AV → List AObj → Prop) (e : Exit) (s : AS) : Prop :=
  (match e with | .normal => True | .ret => True | _ => False) ∧ (s.n0 = m ∧ s.c0 = ch) ∧ match resultsA T fn.results.toList s with
    | some v => match frzA m s.hp v with
      | some r => match gather m s.hp m 0 with | some objs => Q r objs | none => False
      | none => False
    | none => False

theorem gather_spec {m : Nat} {hp : Nat → Option AObj} : ∀ (k i : Nat) (l : List AObj), gather m hp k i = some l → l.length = k ∧ ∀ (j : Nat) o, l[j]? = some o → ∃ o', hp (i + j) = some o' ∧ frzO m hp o' = some o
  | 0, i, l, h => by simp only [gather, Option.some.injEq] at h; subst h; simp
  | k + 1, i, l, h => by
    simp only [gather] at h
    split at h
    · rename_i o ho
      split at h
      · rename_i o' l' h1 h2
        simp only [Option.some.injEq] at h
        subst h
        obtain ⟨h3, h4⟩ := gather_spec k (i + 1) l' h2
        refine ⟨by simp [h3], fun j q hq => ?_⟩
        match j with
        | 0 => simp only [List.getElem?_cons_zero, Option.some.injEq] at hq; subst hq; exact ⟨o, ho, h1⟩
        | j + 1 =>
          have := h4 j q (by simpa using hq)
          rw [show i + (j + 1) = i + 1 + j from by omega]
          exact this
      · cases h
    · cases h

section
variable {P : Program} {T : Tab} {C : Ctx} {s : AS} {S S' : Nat → Prop} {σ : Nat → Value} {a : Act} {w : World} {m : Nat}

theorem frzO_sound (hs : SR C s S σ a w) (hg : Grows s S S' σ m) {id : Nat} {o o' : AObj} (ho : ObjR w S σ s.nx id o) (h : frzO m s.hp o = some o') : ObjR w S' σ m id o' := by
  cases o with
  | box t cs =>
    simp only [frzO] at h
    split at h
    · rename_i l hl
      simp only [Option.some.injEq] at h
      subst h
      obtain ⟨b, vs, h1, h2, h3⟩ := ho
      exact ⟨b, vs, h1, h2, frzLs_ls hs hg h3 hl⟩
    · cases h
  | row t sz rows =>
    simp only [frzO, Option.some.injEq] at h
    subst h
    obtain ⟨h0, xs, h1, h2, h3⟩ := ho
    exact ⟨h0, xs, h1, h2, fun i j r p hr hp => let ⟨v, hv, hh⟩ := h3 i j r p hr hp; ⟨v, hv, hh.mono (fun _ _ => rfl) hg.le⟩⟩

theorem callF_sem (hT : TOK P T) {g : Nat} {fn : Func} {c : Code} (hf : P.funcs[g]? = some fn) (hb : fn.body = some c) (hent : Ent P g) {args : List AV} {objs : List AObj} {ch : Nat → Bool} {Q : AV → List AObj → Prop} (hle : args.length ≤ fn.ntmps)
    (h : Wlk P c (AS.startF args objs fn.ntmps ch) (EndsF T fn objs.length ch Q)) : CallF P g args objs ch Q := by
  refine ⟨hent, fun w S σ hS hH vs hn hv => ?_⟩
  have hst : SR ⟨w, S, Bof σ objs.length, σ⟩ (AS.startF args objs fn.ntmps ch) S σ { tmps := vs ++ Array.replicate (fn.ntmps - vs.size) undef, defers := [] } w := by
    refine ⟨by simp [AS.startF]; omega, rfl, fun i => ?_, ⟨hH.lt, hH.obj, hH.notS, fun id o b h1 h2 => .inl (hH.own id o b h1 h2), hH.inj⟩, hS, fun _ h => h, ⟨rfl, rfl, rfl, Nat.le_refl _, fun _ _ _ => rfl⟩, Nat.le_refl _, fun _ _ _ => rfl, fun b h => .inl h⟩
    simp only [AS.startF]
    cases hx : args[i]? with
    | none => exact .one (.any _)
    | some x =>
      obtain ⟨v, h1, h2⟩ := hv i x hx
      have hlt : i < vs.size := (Array.getElem?_eq_some_iff.1 h1).1
      simp only [Array.getD_eq_getD_getElem?, Array.getElem?_append_left hlt, h1, Option.getD_some]
      exact h2
  refine calls_of_wp hf hb (wp_mono (h.run _ _ w ⟨S, _, hst⟩) ?_)
  rintro e a' w' ⟨s', ⟨h1, hn0, h2⟩, Sx, σ', hs'⟩
  have fin : a'.defers = [] ∧ ∃ v, (results fn a'.tmps).run P w' = .ok v w' ∧ ∃ v' r objs' S' σ', Q r objs' ∧ Ending.returned v = .returned v' ∧ objs'.length = objs.length ∧ Keeps w w' (Bof σ objs.length) ∧ (∀ b, S b → S' b) ∧ (∀ b, S' b → S b ∨ w.heap.size ≤ b ∨ Bof σ objs.length b) ∧ (∀ b, S' b → b < w'.heap.size) ∧
      HR (fun b => Bof σ objs.length b ∨ w.heap.size ≤ b) w' S' σ' objs.length (hpOf objs') ∧ (∀ i, i < objs.length → ch i = false → σ' i = σ i) ∧ AVR w' S' σ' objs.length r v' := by
    refine ⟨hs'.defers, ?_⟩
    split at h2
    · rename_i v hv
      split at h2
      · rename_i r hr
        split at h2
        · rename_i objs' hobjs
          obtain ⟨cv, h3, h4⟩ := results_sound hT hs' hv
          obtain ⟨h5, h6⟩ := gather_spec _ _ _ hobjs
          have hg : Grows s' Sx (fun b => Sx b ∨ ∃ id o, objs.length ≤ id ∧ s'.hp id = some o ∧ blk (σ' id) = some b) σ' objs.length := ⟨fun b h => .inl h, fun id o b hid ho hb => .inr ⟨id, o, hid, ho, hb⟩⟩
          have get : ∀ i o, hpOf objs' i = some o → i < objs.length ∧ ∃ o', s'.hp i = some o' ∧ frzO objs.length s'.hp o' = some o := by
            intro i o ho
            have hlt : i < objs'.length := (List.getElem?_eq_some_iff.1 ho).1
            have := h6 i o ho
            rw [Nat.zero_add] at this
            exact ⟨by omega, this⟩
          refine ⟨cv, h3, cv, r, objs', _, σ', h2, rfl, h5, hs'.keep, fun b hb => .inl (hs'.le b hb), fun b hb => ?_, fun b hb => ?_, ⟨fun i o ho => (get i o ho).1, fun i o ho => ?_, fun i o b ho hb => ?_, fun i o b ho hb => ?_, fun i i' o o' b ho ho' hb hb' => ?_⟩, fun i hi hc => ?_, frzA_sound hs' hg h4 hr⟩
          · rcases hb with hb | ⟨id, o, _, ho, hb⟩
            · exact hs'.up b hb
            · rcases hs'.hp.own id o b ho hb with h7 | h7
              · exact .inr (.inr h7)
              · exact .inr (.inl h7)
          · rcases hb with hb | ⟨id, o, _, ho, hb⟩
            · exact hs'.lt b hb
            · exact blk_lt (hs'.hp.obj id o ho) hb
          · obtain ⟨h7, o', h8, h9⟩ := get i o ho
            exact frzO_sound hs' hg (hs'.hp.obj i o' h8) h9
          · obtain ⟨h7, o', h8, h9⟩ := get i o ho
            rintro (h10 | ⟨id, q, h10, h11, h12⟩)
            · exact hs'.hp.notS i o' b h8 hb h10
            · have := hs'.hp.inj i id o' q b h8 h11 hb h12; omega
          · obtain ⟨h7, o', h8, h9⟩ := get i o ho
            exact hs'.hp.own i o' b h8 hb
          · obtain ⟨_, o1, h8, _⟩ := get i o ho
            obtain ⟨_, o2, h9, _⟩ := get i' o' ho'
            exact hs'.hp.inj i i' o1 o2 b h8 h9 hb hb'
          · exact hs'.hs i (by rw [hn0.1]; exact hi) (by rw [hn0.2]; exact hc)
        · exact h2.elim
      · exact h2.elim
    · exact h2.elim
  cases e with
  | normal => exact fin
  | ret => exact fin
  | _ => exact h1.elim

theorem callF_body (hT : TOK P T) (hm : P.follows .mixedOrders = true) {g : Nat} {fn : Func} {c : Code} (hf : P.funcs[g]? = some fn) (hb : fn.body = some c) (hent : Ent P g) {args : List AV} {objs : List AObj} {ch : Nat → Bool} {Q : AV → List AObj → Prop} (hle : args.length ≤ fn.ntmps)
    (h : vcCode P T c (AS.startF args objs fn.ntmps ch) (EndsF T fn objs.length ch Q)) : CallF P g args objs ch Q := callF_sem hT hf hb hent hle (sem_vc hT hm h)

/-- Names for names. -/
def rn (ρ : List Nat) (i : Nat) : Nat := match ρ[i]? with | some j => j | none => 0
def LV.ren (ρ : List Nat) : LV → LV
  | .ptr i off => .ptr (rn ρ i) off
  | .rp i z j off => .rp (rn ρ i) z j off
  | .sl i => .sl (rn ρ i)
  | .clo g l => .clo g (l.map (rn ρ))
  | x => x
def RV.ren (ρ : List Nat) : RV → RV
  | .lf x => .lf (x.ren ρ)
  | .agg xs => .agg (xs.map (LV.ren ρ))
def AV.ren (ρ : List Nat) : AV → AV
  | .one r => .one (r.ren ρ)
  | .tup rs => .tup (rs.map (RV.ren ρ))
def AObj.ren (ρ : List Nat) : AObj → AObj
  | .box t cs => .box t (cs.map (LV.ren ρ))
  | o => o
def meets (l : List Nat) : List Nat → Bool
  | [] => false
  | i :: r => memb i l || meets l r
def LV.wipe (l : List Nat) (x : LV) : LV := bif meets l x.ids then .any else x
def RV.wipe (l : List Nat) : RV → RV
  | .lf x => .lf (x.wipe l)
  | .agg xs => bif meets l (lids xs) then .lf .any else .agg xs
def AV.wipe (l : List Nat) : AV → AV
  | .one r => .one (r.wipe l)
  | .tup rs => .tup (rs.map (RV.wipe l))
def AObj.wipe (l : List Nat) : AObj → AObj
  | .box t cs => .box t (cs.map (LV.wipe l))
  | o => o
def setAll : List Nat → List AObj → (Nat → Option AObj) → Nat → Option AObj
  | a :: r, o :: os, hp, j => bif Nat.beq j a then some o else setAll r os hp j
  | _, _, hp, j => hp j
def chg (ρ : List Nat) (ch : Nat → Bool) : List Nat → List Nat
  | [] => []
  | i :: r => bif ch i then rn ρ i :: chg ρ ch r else chg ρ ch r
def AS.after (s : AS) (ρ : List Nat) (ch : Nat → Bool) (objs : List AObj) : AS :=
  { s with fr := fun i => (s.fr i).wipe (chg ρ ch (List.range ρ.length)), hp := setAll ρ (objs.map (AObj.ren ρ)) fun j => (s.hp j).map (AObj.wipe (chg ρ ch (List.range ρ.length))) }

theorem meets_false {l r : List Nat} (h : meets l r = false) : ∀ i ∈ r, i ∉ l := by
  induction r with
  | nil => intro i hi; cases hi
  | cons a r ih =>
    simp only [meets, Bool.or_eq_false_iff] at h
    intro i hi
    rcases List.mem_cons.1 hi with rfl | hi
    · intro hm; rw [memb_iff.2 hm] at h; cases h.1
    · exact ih h.2 i hi

section
variable {w' : World} {σ' : Nat → Value} {n n' : Nat} {l ρ : List Nat}

theorem LVR.wipe (hk : ∀ b, S b → w'.heap[b]? = w.heap[b]?) (hS : ∀ b, S b → S' b) (hσ : ∀ i, i < n → i ∉ l → i < n' ∧ σ' i = σ i) {x : LV} {v : Value} (h : LVR w S σ n x v) : LVR w' S' σ' n' (x.wipe l) v := by
  unfold LV.wipe
  cases hm : meets l x.ids with
  | true => exact .any v h.one
  | false => exact h.away hk hS fun i hi => hσ i (ids_lt (x := .lv x) (.one (.lf h)) i hi) (meets_false hm i hi)
theorem RVR.wipe (hk : ∀ b, S b → w'.heap[b]? = w.heap[b]?) (hS : ∀ b, S b → S' b) (hσ : ∀ i, i < n → i ∉ l → i < n' ∧ σ' i = σ i) {x : RV} {v : Value} (h : RVR w S σ n x v) : RVR w' S' σ' n' (x.wipe l) v := by
  cases h with
  | any v => simp only [RV.wipe, LV.wipe, LV.ids, meets, cond_false]; exact .any v
  | lf h => exact .lf (h.wipe hk hS hσ)
  | @agg xs vs h =>
    simp only [RV.wipe]
    cases hm : meets l (lids xs) with
    | true => exact .any _
    | false => exact .agg (h.away hk hS fun i hi => hσ i (ids_lt (x := .agg xs) (.one (.agg h)) i hi) (meets_false hm i hi))
theorem AVR.wipe (hk : ∀ b, S b → w'.heap[b]? = w.heap[b]?) (hS : ∀ b, S b → S' b) (hσ : ∀ i, i < n → i ∉ l → i < n' ∧ σ' i = σ i) {x : AV} {v : Value} (h : AVR w S σ n x v) : AVR w' S' σ' n' (x.wipe l) v := by
  cases h with
  | one h => exact .one (h.wipe hk hS hσ)
  | tup hn h =>
    refine .tup (by simpa using hn) fun i r hr => ?_
    rw [List.getElem?_map] at hr
    obtain ⟨r', h1, rfl⟩ := Option.map_eq_some_iff.1 hr
    obtain ⟨v, h2, h3⟩ := h i r' h1
    exact ⟨v, h2, h3.wipe hk hS hσ⟩

theorem LVR.ren (hσ : ∀ i, i < n → rn ρ i < n' ∧ σ' (rn ρ i) = σ i) {x : LV} {v : Value} (h : LVR w S σ n x v) : LVR w S σ' n' (x.ren ρ) v := by
  cases h with
  | pv h => exact .pv h
  | any v h => exact .any v h
  | ptr hi h => exact .ptr (hσ _ hi).1 ((hσ _ hi).2.trans h)
  | rp hi h => exact .rp (hσ _ hi).1 ((hσ _ hi).2.trans h)
  | @sl i hi h1 => rw [← (hσ i hi).2]; exact .sl (hσ _ hi).1 (by rw [(hσ i hi).2]; exact h1)
  | @clo g ids hi =>
    have : ids.map σ = (ids.map (rn ρ)).map σ' := by
      rw [List.map_map]
      exact List.map_congr_left fun i hm => ((hσ i (hi i hm).1).2).symm
    rw [this]
    refine .clo fun j hj => ?_
    obtain ⟨i, hm, rfl⟩ := List.mem_map.1 hj
    obtain ⟨h1, b, hb⟩ := hi i hm
    exact ⟨(hσ i h1).1, b, (hσ i h1).2.trans hb⟩
theorem LVR.unren (hσ : ∀ i, i < n → σ' (rn ρ i) = σ i) {x : LV} {v : Value} (hx : ∀ i ∈ x.ids, i < n) (h : LVR w S σ' n' (x.ren ρ) v) : LVR w S σ n x v := by
  cases x with
  | pv p => cases h with | pv h => exact .pv h
  | any => cases h with | any _ h => exact .any _ h
  | ptr i off =>
    have hi := hx i (by simp [LV.ids])
    cases h with | ptr _ h => exact .ptr hi ((hσ i hi).symm.trans h)
  | rp i z j off =>
    have hi := hx i (by simp [LV.ids])
    cases h with | rp _ h => exact .rp hi ((hσ i hi).symm.trans h)
  | sl i =>
    have hi := hx i (by simp [LV.ids])
    cases h with | sl _ h1 => rw [hσ i hi] at h1 ⊢; exact .sl hi h1
  | clo g ids =>
    cases h with
    | clo h =>
      have : (ids.map (rn ρ)).map σ' = ids.map σ := by
        rw [List.map_map]
        exact List.map_congr_left fun i hm => hσ i (hx i (by simpa [LV.ids] using hm))
      rw [this]
      refine .clo fun i hm => ?_
      have hi := hx i (by simpa [LV.ids] using hm)
      obtain ⟨_, b, hb⟩ := h (rn ρ i) (List.mem_map_of_mem hm)
      exact ⟨hi, b, (hσ i hi).symm.trans hb⟩
theorem lids_mem {xs : List LV} {i : Nat} {x : LV} (hx : xs[i]? = some x) {n : Nat} (h : ∀ k ∈ lids xs, k < n) : ∀ k ∈ x.ids, k < n := fun k hk => h k (mem_lids hx hk)
theorem LsR.ren (hσ : ∀ i, i < n → rn ρ i < n' ∧ σ' (rn ρ i) = σ i) {xs : List LV} {vs : Array Value} (h : LsR w S σ n xs vs) : LsR w S σ' n' (xs.map (LV.ren ρ)) vs := by
  refine ⟨by simpa using h.1, fun i x hx => ?_⟩
  rw [List.getElem?_map] at hx
  obtain ⟨y, h1, rfl⟩ := Option.map_eq_some_iff.1 hx
  obtain ⟨v, h2, h3⟩ := h.2 i y h1
  exact ⟨v, h2, h3.ren hσ⟩
theorem LsR.unren (hσ : ∀ i, i < n → σ' (rn ρ i) = σ i) {xs : List LV} {vs : Array Value} (hx : ∀ i ∈ lids xs, i < n) (h : LsR w S σ' n' (xs.map (LV.ren ρ)) vs) : LsR w S σ n xs vs := by
  refine ⟨by simpa using h.1, fun i x hi => ?_⟩
  obtain ⟨v, h2, h3⟩ := h.2 i (x.ren ρ) (by rw [List.getElem?_map, hi]; rfl)
  exact ⟨v, h2, h3.unren hσ (lids_mem hi hx)⟩
theorem RVR.ren (hσ : ∀ i, i < n → rn ρ i < n' ∧ σ' (rn ρ i) = σ i) {x : RV} {v : Value} (h : RVR w S σ n x v) : RVR w S σ' n' (x.ren ρ) v := by
  cases h with
  | any v => exact .any v
  | lf h => exact .lf (h.ren hσ)
  | agg h => exact .agg (h.ren hσ)
theorem RVR.unren (hσ : ∀ i, i < n → σ' (rn ρ i) = σ i) {x : RV} {v : Value} (hx : ∀ i ∈ x.ids, i < n) (h : RVR w S σ' n' (x.ren ρ) v) : RVR w S σ n x v := by
  cases x with
  | lf x =>
    by_cases e : x = .any
    · subst e; exact .any v
    · simp only [RV.ren] at h
      cases hx' : x.ren ρ with
      | any => cases x <;> simp [LV.ren] at hx' e
      | _ =>
        rw [hx'] at h
        cases h with
        | lf h => rw [← hx'] at h; exact .lf (h.unren hσ hx)
  | agg xs => cases h with | agg h => exact .agg (h.unren hσ hx)
theorem AVR.ren (hσ : ∀ i, i < n → rn ρ i < n' ∧ σ' (rn ρ i) = σ i) {x : AV} {v : Value} (h : AVR w S σ n x v) : AVR w S σ' n' (x.ren ρ) v := by
  cases h with
  | one h => exact .one (h.ren hσ)
  | tup hn h =>
    refine .tup (by simpa using hn) fun i r hr => ?_
    rw [List.getElem?_map] at hr
    obtain ⟨r', h1, rfl⟩ := Option.map_eq_some_iff.1 hr
    obtain ⟨v, h2, h3⟩ := h i r' h1
    exact ⟨v, h2, h3.ren hσ⟩
theorem AVR.unren (hσ : ∀ i, i < n → σ' (rn ρ i) = σ i) {x : AV} {v : Value} (hx : ∀ i ∈ x.ids, i < n) (h : AVR w S σ' n' (x.ren ρ) v) : AVR w S σ n x v := by
  cases x with
  | one r => cases h with | one h => exact .one (h.unren hσ hx)
  | tup rs =>
    cases h with
    | tup hn h =>
      refine .tup (by simpa using hn) fun i r hr => ?_
      obtain ⟨v, h2, h3⟩ := h i (r.ren ρ) (by rw [List.getElem?_map, hr]; rfl)
      exact ⟨v, h2, h3.unren hσ fun k hk => hx k (mem_rids hr hk)⟩
end

end
end Go.Proofs.Ytijjagkeaehhbaa.Eng
