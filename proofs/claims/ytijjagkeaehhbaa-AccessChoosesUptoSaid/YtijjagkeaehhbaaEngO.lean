/- The engine: a region that draws its order: one order stands for all. -/
import Derived.Test.YtijjagkeaehhbaaEngN
set_option linter.unusedSimpArgs false
set_option linter.unusedVariables false
namespace Go.Proofs.Ytijjagkeaehhbaa.Eng
open Go.RowKit (Below)

def memb (x : Nat) : List Nat → Bool
  | [] => false
  | y :: r => Nat.beq x y || memb x r
theorem memb_iff {x : Nat} : ∀ {l : List Nat}, memb x l = true ↔ x ∈ l
  | [] => by simp [memb]
  | y :: r => by
    simp only [memb, Bool.or_eq_true, List.mem_cons, memb_iff (l := r)]
    constructor
    · rintro (h | h)
      · exact .inl (Nat.eq_of_beq_eq_true h)
      · exact .inr h
    · rintro (h | h)
      · subst h; exact .inl (Nat.beq_refl x)
      · exact .inr h

/-- What an operation did in the text's order: the slot, what lies in it, the object written; the slots and the objects read. -/
structure Ef where
  run : Bool
  d : Option Nat
  v : AV
  u : Option (Nat × AObj)
  rs : List Nat
  ri : List Nat

def objIds : Option (Nat × AObj) → List Nat
  | some (i, .box _ cs) => i :: lids cs
  | some (i, .row _ _ _) => [i]
  | none => []
def Ef.ids (e : Ef) : List Nat := e.v.ids ++ objIds e.u
def Ef.uid (e : Ef) : Option Nat := match e.u with | some (i, _) => some i | none => none
def hitO : Option Nat → List Nat → Bool
  | some d, l => memb d l
  | none, _ => false
def same : Option Nat → Option Nat → Bool
  | some a, some b => Nat.beq a b
  | _, _ => false
def confl (e e' : Ef) : Bool := hitO e.d e'.rs || hitO e'.d e.rs || same e.d e'.d || hitO e.uid e'.ri || hitO e'.uid e.ri || same e.uid e'.uid

/-- Which operations stand before each one, by the edges that bind. -/
def maskOf (es : List Edge) (acc : List Nat) : Nat :=
  match es with
  | [] => 0
  | e :: r => match Region.binds .any e, acc[e.on]? with
    | true, some m => maskOf r acc ||| (2 ^ e.on ||| m)
    | _, _ => maskOf r acc
def ancL : List Oper → List Nat → List Nat
  | [], acc => acc
  | o :: r, acc => ancL r (acc ++ [maskOf o.after.toList acc])
def edgesOk : List Oper → Nat → Bool
  | [], _ => true
  | o :: r, k => o.after.toList.all (fun e => !Region.binds .any e || Nat.blt e.on k) && edgesOk r (k + 1)

/-- k-th against all later ones. -/
def okRow (base k : Nat) (e : Ef) (m : Nat) : List Ef → List Nat → Nat → Bool
  | [], _, _ => true
  | e' :: r, [], j => false
  | e' :: r, m' :: rm, j => ((!(confl e e' || memb (base + k) e'.ids)) || Nat.testBit m' k) && !(memb (base + j) e.ids) && okRow base k e m r rm (j + 1)
def okAll (base : Nat) : List Ef → List Nat → Nat → Bool
  | [], _, _ => true
  | _ :: _, [], _ => false
  | e :: r, m :: rm, k => okRow base k e m r rm (k + 1) && okAll base r rm (k + 1)
def okTrace (ops : Array Oper) (base : Nat) (τ : List Ef) : Bool := edgesOk ops.toList 0 && okAll base τ (ancL ops.toList []) 0

def AS.bump (s : AS) (n : Nat) : AS := { s with nx := s.nx + n }
/-- A slot's truth value, spelt out. -/
def AS.lit (s : AS) (d : Nat) (b : Bool) : AS := { s with fr := fun i => bif Nat.beq i d then .pv (.bool b) else s.fr i }
def dstOk (s : AS) : Option Nat → Bool
  | some d => Nat.blt d s.n
  | none => true

def opOk (s : AS) (id : Nat) (o : Oper) : Bool := dstOk s o.dst && o.op.operands.toList.all fun x => !(memb id (s.ev x).ids)

noncomputable def vcDraw (P : Program) (T : Tab) (ops : Array Oper) (base : Nat) (k : Nat) (l : List Oper) : List Ef → AS → (List Ef → AS → Prop) → Prop :=
  List.rec (motive := fun _ => Nat → List Ef → AS → (List Ef → AS → Prop) → Prop) (fun _ acc s K => K acc.reverse s)
    (fun o _ next k acc s K =>
      let go (s : AS) : Prop := opOk s (base + k) o = true ∧ stepOp P T o s.ev s.hp (base + k) fun v u =>
        next (k + 1) (⟨true, o.dst, v, u, o.looksAt ops, memIds o.op s.ev⟩ :: acc) (s.eff o.dst v u) K
      match o.guard with
      | none => go s
      | some (j, want) => match (ops[j]?).bind (·.dst) with
        | some g => match s.fr g with
          | .one (.lf (.pv (.bool c))) => (c = want → go (s.lit g want)) ∧
            (c = !want → dstOk s o.dst = true ∧ next (k + 1) (⟨false, o.dst, .tup [], none, o.looksAt ops, []⟩ :: acc) ((s.lit g (!want)).eff o.dst (.tup []) none) K)
          | .tup [] => dstOk s o.dst = true ∧ next (k + 1) (⟨false, o.dst, .tup [], none, o.looksAt ops, []⟩ :: acc) (s.eff o.dst (.tup []) none) K
          | _ => False
        | none => False) l k
theorem vcDraw_cons (P : Program) (T : Tab) (ops : Array Oper) (base k : Nat) (o : Oper) (r : List Oper) (acc : List Ef) (s : AS) (K : List Ef → AS → Prop) : vcDraw P T ops base k (o :: r) acc s K =
    (let go (s : AS) : Prop := opOk s (base + k) o = true ∧ stepOp P T o s.ev s.hp (base + k) fun v u =>
      vcDraw P T ops base (k + 1) r (⟨true, o.dst, v, u, o.looksAt ops, memIds o.op s.ev⟩ :: acc) (s.eff o.dst v u) K
    match o.guard with
    | none => go s
    | some (j, want) => match (ops[j]?).bind (·.dst) with
      | some g => match s.fr g with
        | .one (.lf (.pv (.bool c))) => (c = want → go (s.lit g want)) ∧
          (c = !want → dstOk s o.dst = true ∧ vcDraw P T ops base (k + 1) r (⟨false, o.dst, .tup [], none, o.looksAt ops, []⟩ :: acc) ((s.lit g (!want)).eff o.dst (.tup []) none) K)
        | .tup [] => dstOk s o.dst = true ∧ vcDraw P T ops base (k + 1) r (⟨false, o.dst, .tup [], none, o.looksAt ops, []⟩ :: acc) (s.eff o.dst (.tup []) none) K
        | _ => False
      | none => False) := rfl

def vcRegionDraw (P : Program) (T : Tab) (ops : Array Oper) (s : AS) (K : AS → Prop) : Prop :=
  vcDraw P T ops s.nx 0 ops.toList [] (s.bump ops.size) fun τ s' => okTrace ops s.nx τ = true ∧ K s'

theorem lit_eq {s : AS} {d : Nat} {b : Bool} (h : s.fr d = .pv (.bool b)) : s.lit d b = s := by
  have : (fun i => bif Nat.beq i d then AV.pv (.bool b) else s.fr i) = s.fr := by
    funext i
    by_cases e : i = d
    · subst e; rw [Nat.beq_refl]; exact h.symm
    · rw [beq_ne e]; rfl
  unfold AS.lit
  rw [this]

/-- Which value decides. -/
def Decides (s : AS) (ops : Array Oper) (o : Oper) (b : Bool) : Prop :=
  match o.guard with
  | none => b = true
  | some (j, want) => ∃ g, (ops[j]?).bind (·.dst) = some g ∧ ((∃ c, s.fr g = .pv (.bool c) ∧ (c == want) = b) ∨ (s.fr g = .tup [] ∧ b = false))

structure Good (P : Program) (T : Tab) (ops : Array Oper) (base : Nat) (s : AS) (k : Nat) (o : Oper) (e : Ef) : Prop where
  d : e.d = o.dst
  dlt : ∀ d, o.dst = some d → d < s.n
  rs : e.rs = o.looksAt ops
  dec : Decides s ops o e.run
  ri : e.run = true → e.ri = memIds o.op s.ev
  fresh : e.run = true → ∀ x ∈ o.op.operands, base + k ∉ (s.ev x).ids
  step : e.run = true → stepOp P T o s.ev s.hp (base + k) fun v' u' => v' = e.v ∧ u' = e.u
  skip : e.run = false → e.v = .tup [] ∧ e.u = none

def runE (p : Nat → Bool) : List Ef → Nat → AS → AS
  | [], _, s => s
  | e :: r, k, s => runE p r (k + 1) (bif p k then s.eff e.d e.v e.u else s)

theorem runE_append (p : Nat → Bool) : ∀ (l l' : List Ef) (k : Nat) (s : AS), runE p (l ++ l') k s = runE p l' (k + l.length) (runE p l k s)
  | [], l', k, s => rfl
  | e :: r, l', k, s => by simp only [List.cons_append, runE, List.length_cons]; rw [runE_append p r l' (k + 1) _, Nat.add_assoc, Nat.add_comm 1]
theorem runE_congr {p q : Nat → Bool} : ∀ (l : List Ef) (k : Nat) (s : AS), (∀ i, i < l.length → p (k + i) = q (k + i)) → runE p l k s = runE q l k s
  | [], _, _, _ => rfl
  | e :: r, k, s, h => by
    simp only [runE]
    rw [show p k = q k from h 0 (by simp)]
    exact runE_congr r (k + 1) _ fun i hi => by have := h (i + 1) (by simp; omega); rwa [Nat.add_assoc, Nat.add_comm 1] 
theorem runE_none : ∀ (l : List Ef) (k : Nat) (s : AS), runE (fun _ => false) l k s = s
  | [], _, _ => rfl
  | e :: r, k, s => by simp only [runE, cond_false]; exact runE_none r (k + 1) s

/-- What the text's order tells. -/
def DrawC (P : Program) (T : Tab) (ops : Array Oper) (base : Nat) (s0 : AS) (K : List Ef → AS → Prop) (rest : List Oper) (k : Nat) (pre : List Ef) : Prop :=
  ∃ t : List Ef, t.length = rest.length ∧ K (pre ++ t) (runE (fun _ => true) (pre ++ t) 0 s0) ∧
      ∀ (i : Nat) (o : Oper), rest[i]? = some o → ∃ e, t[i]? = some e ∧ Good P T ops base (runE (fun j => Nat.blt j (k + i)) (pre ++ t) 0 s0) (k + i) o e

theorem vcDraw_spec {P : Program} {T : Tab} {ops : Array Oper} {base : Nat} {s0 : AS} {K : List Ef → AS → Prop} : ∀ (rest : List Oper) (k : Nat) (acc : List Ef) (s : AS), acc.length = k → s = runE (fun _ => true) acc.reverse 0 s0 →
    vcDraw P T ops base k rest acc s K → DrawC P T ops base s0 K rest k acc.reverse
  | [], k, acc, s, hk, hs, h => ⟨[], rfl, by simp only [List.append_nil]; rw [← hs]; exact h, by simp⟩
  | o :: r, k, acc, s, hk, hs, h => by
    -- one step on, for whatever effect
    have next : ∀ e : Ef, Good P T ops base s k o e → vcDraw P T ops base (k + 1) r (e :: acc) (s.eff e.d e.v e.u) K → DrawC P T ops base s0 K (o :: r) k acc.reverse := by
      intro e he hv
      obtain ⟨t, h1, h2, h3⟩ := vcDraw_spec r (k + 1) (e :: acc) _ (by simp [hk]) (by simp only [List.reverse_cons]; rw [runE_append, ← hs]; simp [runE]) hv
      simp only [List.reverse_cons, List.append_assoc, List.singleton_append] at h2 h3
      refine ⟨e :: t, by simp [h1], h2, fun i o' hi => ?_⟩
      match i with
      | 0 =>
        simp only [List.getElem?_cons_zero, Option.some.injEq] at hi
        subst hi
        refine ⟨e, rfl, ?_⟩
        have : runE (fun j => Nat.blt j (k + 0)) (acc.reverse ++ e :: t) 0 s0 = s := by
          rw [runE_append, List.length_reverse, hk, Nat.zero_add]
          rw [runE_congr (q := fun _ => true) acc.reverse 0 s0 (fun i hi => by simp only [Nat.zero_add, Nat.add_zero, Nat.blt_eq]; rw [List.length_reverse, hk] at hi; exact hi), ← hs]
          rw [runE_congr (q := fun _ => false) (e :: t) k s (fun i hi => by rw [Bool.eq_false_iff]; intro hb; simp only [Nat.add_zero] at hb; rw [Nat.blt_eq] at hb; omega)]
          exact runE_none _ _ _
        rw [this]
        exact he
      | i + 1 =>
        obtain ⟨e', h4, h5⟩ := h3 i o' (by simpa using hi)
        refine ⟨e', by simpa using h4, ?_⟩
        rw [show k + (i + 1) = k + 1 + i from by omega]
        exact h5
    have go : ∀ b : Decides s ops o true, (opOk s (base + k) o = true ∧ stepOp P T o s.ev s.hp (base + k) fun v u =>
        vcDraw P T ops base (k + 1) r (⟨true, o.dst, v, u, o.looksAt ops, memIds o.op s.ev⟩ :: acc) (s.eff o.dst v u) K) → DrawC P T ops base s0 K (o :: r) k acc.reverse := by
      rintro b ⟨h12, h3⟩
      obtain ⟨h1, h2⟩ := Bool.and_eq_true_iff.1 h12
      rw [List.all_eq_true] at h2
      obtain ⟨v, u, h4, h5⟩ := stepOp_ex h3
      exact next ⟨true, o.dst, v, u, o.looksAt ops, memIds o.op s.ev⟩ ⟨rfl, fun d hd => by rw [hd] at h1; exact (Nat.blt_eq ▸ h1 : d < s.n), rfl, b, fun _ => rfl, (fun _ x hx hm => by
        have := h2 x (Array.mem_toList_iff.2 hx); rw [memb_iff.2 hm] at this; cases this), fun _ => h5, fun h => by cases h⟩ h4
    rw [vcDraw_cons] at h
    simp only at h
    split at h
    · rename_i hg
      exact go (by simp only [Decides, hg]) h
    · rename_i j want hg
      split at h
      · rename_i g hgd
        split at h
        · rename_i c hc
          by_cases e : c = want
          · have h1 := h.1 e
            rw [lit_eq (by rw [hc, e])] at h1
            exact go (by simp only [Decides, hg]; exact ⟨g, hgd, .inl ⟨c, hc, by simp [e]⟩⟩) h1
          · have e' : c = !want := by cases c <;> cases want <;> simp_all
            obtain ⟨h1, h2⟩ := h.2 e'
            rw [lit_eq (by rw [hc, e'])] at h2
            exact next ⟨false, o.dst, .tup [], none, o.looksAt ops, []⟩ ⟨rfl, fun d hd => by rw [hd] at h1; exact (Nat.blt_eq ▸ h1 : d < s.n), rfl, by simp only [Decides, hg]; exact ⟨g, hgd, .inl ⟨c, hc, by simp [e]⟩⟩, (fun h => by cases h), (fun h => by cases h),
              (fun h => by cases h), fun _ => ⟨rfl, rfl⟩⟩ h2
        · rename_i hc
          obtain ⟨h1, h2⟩ := h
          exact next ⟨false, o.dst, .tup [], none, o.looksAt ops, []⟩ ⟨rfl, fun d hd => by rw [hd] at h1; exact (Nat.blt_eq ▸ h1 : d < s.n), rfl, by unfold Decides; rw [hg]; exact ⟨g, hgd, .inr ⟨hc, rfl⟩⟩, (fun h => by cases h), (fun h => by cases h),
            (fun h => by cases h), fun _ => ⟨rfl, rfl⟩⟩ h2
        · exact h.elim
      · exact h.elim

end Go.Proofs.Ytijjagkeaehhbaa.Eng
