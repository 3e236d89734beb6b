/- The engine: a step is sound. And what follows in this text; each statement bears its conditions. -/
import Derived.Test.YtijjagkeaehhbaaGreatKcc
/- The engine: a step is sound. -/
set_option linter.unusedSimpArgs false
set_option linter.unusedVariables false
namespace Go.Proofs.YtijjagkeaehhbaaGreat.Eng
open Go.RowKit (Below)

def fresh? : Op → Bool
  | .box _ _ => true
  | .alloc _ => true
  | .buildSlice _ _ _ => true
  | _ => false

section
variable {P : Program} {T : Tab} {C : Ctx} {o : Oper} {s : AS} {nid : Nat} {v : AV} {u : Option (Nat × AObj)} {S : Nat → Prop} {σ : Nat → Value} {a : Act} {w : World}

theorem put_eff {d : Option Nat} (hd : ∀ k, d = some k → k < s.n) {v' : AV} (hv : v' = v) : s.put d v' (fun s' => s' = s.eff d v none) := by
  subst hv
  unfold AS.put
  split
  · rfl
  · rename_i k
    have : Nat.blt k s.n = true := by rw [Nat.blt_eq]; exact hd k rfl
    rw [this]
    rfl
theorem put_effO {d : Option Nat} (hd : ∀ k, d = some k → k < s.n) {id : Nat} {ob : AObj} {v' : AV} (hv : v' = v) : (s.setO id ob).put d v' (fun s' => s' = s.eff d v (some (id, ob))) := by
  subst hv
  unfold AS.put
  split
  · rfl
  · rename_i k
    have : Nat.blt k (s.setO id ob).n = true := by rw [Nat.blt_eq]; exact hd k rfl
    rw [this]
    rfl

theorem builtin_vc {b : Builtin} {ts : List Nat} {args : List AV} (hd : ∀ k, o.dst = some k → k < s.n) (h : builtinS T b ts args s.hp fun v' => v' = v) :
    builtinA T b ts args s fun v' s' => s'.put o.dst v' (fun s' => s' = s.eff o.dst v none) := by
  unfold builtinS at h
  split at h
  · split at h
    · rename_i t _ x i hi
      simp only [builtinA, hi]
      split at h
      · rename_i h1 h2; simp only [h1, h2]; exact put_eff hd h
      · rename_i h1 h2; simp only [h1, h2]; exact put_eff hd h
      · rename_i h1 h2; simp only [h1, h2]; exact put_eff hd h
      · rename_i h1 h2 h3; simp only [h1, h2]
        simp only [rdO] at h3
        simp only [h3]
        exact put_eff hd h
      · exact h.elim
    · exact h.elim
  · simp only [builtinA]
    split at h
    · rename_i hk; simp only [hk]; exact put_eff hd h
    · exact h.elim
  · simp only [builtinA]
    split at h
    · rename_i hk; simp only [hk]; exact put_eff hd h
    · exact h.elim
  · exact h.elim

theorem step_vc (hf : fresh? o.op = false) (hd : ∀ k, o.dst = some k → k < s.n) (h : stepOp P T o s.ev s.hp nid fun v' u' => v' = v ∧ u' = u) :
    vcOp P T o s fun s' => s' = s.eff o.dst v u := by
  obtain ⟨dst, op, type, pos, after, guard⟩ := o
  simp only at hd hf ⊢
  cases op <;> simp only [fresh?] at hf <;> (try cases hf) <;> simp only [stepOp] at h <;> simp only [vcOp]
  case move x => obtain ⟨h, rfl⟩ := h; exact put_eff hd h
  case assign x => obtain ⟨h, rfl⟩ := h; exact put_eff hd h
  case pick c x y =>
    split at h
    · rename_i t ht
      simp only [ht]
      exact ⟨fun e => by obtain ⟨h2, h3⟩ := h.1 e; subst h3; exact put_eff hd h2, fun e => by obtain ⟨h2, h3⟩ := h.2 e; subst h3; exact put_eff hd h2⟩
    · exact h.elim
  case binOp op t x y yt =>
    obtain ⟨v', ⟨h1, h2⟩, h3⟩ := binA_ex h
    subst h1 h2
    exact binA_mono (fun v'' e => put_eff hd e) h3
  case unOp op t x =>
    split at h
    · rename_i hx; obtain ⟨h, rfl⟩ := h; simp only [hx]; exact put_eff hd h
    · rename_i hx; obtain ⟨h, rfl⟩ := h; simp only [hx]; exact put_eff hd h
    · exact h.elim
  case nilCheck x =>
    split at h
    · rename_i hx; obtain ⟨h, rfl⟩ := h; simp only [hx]; exact put_eff hd h
    · rename_i hx; obtain ⟨h, rfl⟩ := h; simp only [hx]; exact put_eff hd h
    · rename_i hx; obtain ⟨h, rfl⟩ := h; simp only [hx]; exact put_eff hd h
    · rename_i h1 h2 h3
      split
      · rename_i hx; exact absurd hx (h1 _ _)
      · rename_i hx; exact absurd hx (h2 _ _ _ _)
      · rename_i hx; exact absurd hx (h3 _ _)
      · obtain ⟨r, h4, h5, rfl⟩ := h; exact ⟨r, h4, put_eff hd h5⟩
  case extract x k =>
    split at h
    · rename_i hx
      simp only [hx]
      split at h
      · rename_i hr; simp only [hr]; obtain ⟨h, rfl⟩ := h; exact put_eff hd h
      · exact h.elim
    · exact h.elim
  case load t p =>
    split at h
    · rename_i i hi
      simp only [hi]
      unfold loadA at h
      split at h
      · rename_i hx ho
        simp only [hx, rdO] at ho
        simp only [hx, ho]
        split at h
        · obtain ⟨h, rfl⟩ := h; rename_i hv; simp only [hv]; exact put_eff hd h
        · exact h.elim
      · rename_i hx ho
        simp only [hx, rdO] at ho
        simp only [hx, ho]
        obtain ⟨r, h1, h2, h⟩ := h
        refine ⟨r, h1, h2, ?_⟩
        split at h
        · obtain ⟨h, rfl⟩ := h; rename_i hv; simp only [hv]; exact put_eff hd h
        · exact h.elim
      · rename_i hx
        simp only [hx]
        split at h
        · obtain ⟨h, rfl⟩ := h; rename_i hv; simp only [hv]; exact put_eff hd h
        · exact h.elim
      · exact h.elim
    · exact h.elim
  case store t p x =>
    split at h
    · rename_i i xs hi hxs
      simp only [hi, hxs]
      split at h
      · rename_i hsz
        simp only [hsz]
        split at h
        · rename_i hx ho
          simp only [hx, rdO] at ho
          simp only [hx, ho]
          split at h
          · rename_i hb; obtain ⟨h, rfl⟩ := h; simp only [hb]; exact put_effO hd h
          · exact h.elim
        · exact h.elim
      · exact h.elim
    · exact h.elim
  case fieldAddr t p f =>
    split at h
    · rename_i i hi
      simp only [hi]
      split at h
      · rename_i fo hfo
        simp only [hfo]
        split at h
        · rename_i hx; obtain ⟨h, rfl⟩ := h; simp only [hx]; exact put_eff hd h
        · rename_i hx; obtain ⟨h, rfl⟩ := h; simp only [hx]; exact put_eff hd h
        · rename_i hx; obtain ⟨h, rfl⟩ := h; simp only [hx]; exact put_eff hd h
        · exact h.elim
      · exact h.elim
    · exact h.elim
  case field t x f =>
    split at h
    · rename_i i hi
      simp only [hi]
      split at h
      · rename_i h1 h2
        simp only [h1, h2]
        split at h
        · rename_i hv; obtain ⟨h, rfl⟩ := h; simp only [hv]; exact put_eff hd h
        · exact h.elim
      · exact h.elim
    · exact h.elim
  case indexAddr t x ix =>
    split at h
    · rename_i i hi
      simp only [hi]
      split at h
      · rename_i e he
        simp only [he]
        split at h
        · rename_i h1 h2 h3
          simp only [h1, h2, h3]
          obtain ⟨r, h4, h5, h6, h, rfl⟩ := h
          exact ⟨r, h4, h5, h6, put_eff hd h⟩
        · rename_i h1 h2 h3 h4
          simp only [h2, rdO] at h4
          simp only [h1, h2, h3, h4]
          obtain ⟨h5, h, rfl⟩ := h
          exact ⟨h5, put_eff hd h⟩
        · exact h.elim
      · exact h.elim
    · exact h.elim
  case index t x ix =>
    split at h
    · rename_i i hi
      simp only [hi]
      split at h
      · rename_i h1 h2 h3
        simp only [h1, h2, h3]
        obtain ⟨c, h4, h5, h, rfl⟩ := h
        exact ⟨c, h4, h5, put_eff hd h⟩
      · exact h.elim
    · exact h.elim
  case build t parts =>
    split at h
    · rename_i i hi
      simp only [hi]
      split at h
      · rename_i h1 h2
        simp only [h1, h2]
        obtain ⟨h, rfl⟩ := h; exact put_eff hd h
      · exact h.elim
    · rename_i hi
      simp only [hi]
      obtain ⟨r, h4, h5, rfl⟩ := h
      exact ⟨r, h4, put_eff hd h5⟩
  case call c =>
    split at h
    · rename_i b hc
      simp only [hc]
      have hu : u = none := by
        obtain ⟨v', ⟨_, h2⟩, _⟩ := builtinS_ex h
        exact h2.symm
      subst hu
      refine builtin_vc (o := ⟨dst, .call c, type, pos, after, guard⟩) hd ?_
      simpa using h
    · rename_i f hc
      simp only [hc]
      split at h
      · rename_i g hg
        simp only [hg]
        obtain ⟨r, h1, h2, h, rfl⟩ := h
        exact ⟨.call, callR_of_fun (R := fun v' s' => s'.put dst v' fun s' => s' = s.eff dst v none) h1 (List.isEmpty_iff.1 h2) (put_eff hd h)⟩
      · exact h.elim
    · exact h.elim
  case convert t t' x =>
    split at h
    · rename_i h1 h2 h3
      simp only [h1, h2, h3]
      split at h
      · rename_i hv; obtain ⟨h, rfl⟩ := h; simp only [hv]; exact put_eff hd h
      · exact h.elim
    · rename_i h1 h2 h3
      simp only [h1, h2, h3]
      split at h
      · rename_i hv; obtain ⟨h, rfl⟩ := h; simp only [hv]; exact put_eff hd h
      · exact h.elim
    · exact h.elim
  all_goals first
    | (have hh : False := h; exact hh.elim)
    | (obtain ⟨r, h4, h5, h6⟩ := h; subst h6; exact ⟨r, h4, put_eff hd h5⟩)

theorem fine_at {cv : Value} {w' : World} {σ' : Nat → Value} {ob : AObj} (hr : (execOp a.eval o).run P w = .ok (.value cv) w') (hs : SR C (s.setAt nid ob) S σ' a w') (hv : AVR w' S σ' s.nx v cv)
    (hd : ∀ k, o.dst = some k → k < s.n) : Fine P C o a w fun s' => s' = s.eff o.dst v (some (nid, ob)) :=
  fine_of hr hs hv (put_effO (s := s) hd rfl)

theorem ObjR.box_at {w : World} {S : Nat → Prop} {σ σ' : Nat → Value} {n id t : Nat} {cs : List LV} {vs : Array Value} (hl : LsR w S σ n cs vs) (hlt : ∀ b, S b → b < w.heap.size) (hσ : ∀ i, i ≠ id → σ' i = σ i) (hid : id ∉ lids cs)
    (he : σ' id = .pointer (some ⟨w.heap.size, 0, none⟩)) : ObjR (w.alloc (.cells vs t)) S σ' n id (.box t cs) := by
  refine ⟨w.heap.size, vs, he, heap_alloc_new w _, ?_⟩
  refine hl.away (fun b hb => heap_alloc_old w _ b (hlt b hb)) (fun _ h => h) fun k hk => ⟨?_, hσ k fun e => hid (e ▸ hk)⟩
  exact ids_lt (x := .agg cs) (.one (.agg hl)) k hk

theorem cells_ids {x : AV} {cs : List LV} (h : x.cells = some cs) : lids cs = x.ids := by
  unfold AV.cells at h
  split at h <;> simp only [Option.some.injEq, reduceCtorEq] at h <;> subst h <;> simp [AV.ids, RV.ids, lids]
theorem lids_pvs : ∀ l : List PV, lids (pvs l) = []
  | [] => rfl
  | p :: r => by simp [pvs, lids, LV.ids, lids_pvs r]

theorem step_fresh (hT : TOK P T) (hs : SR C s S σ a w) (hf : Fresh s nid) (hfr : fresh? o.op = true) (hd : ∀ k, o.dst = some k → k < s.n) (hx : ∀ x ∈ o.op.operands, nid ∉ (s.ev x).ids)
    (h : stepOp P T o s.ev s.hp nid fun v' u' => v' = v ∧ u' = u) : Fine P C o a w fun s' => s' = s.eff o.dst v u := by
  cases hop : o.op <;> simp only [hop, fresh?] at hfr <;> (try cases hfr) <;> simp only [stepOp, hop] at h
  case box t x =>
    split at h
    · rename_i i cs hi hc
      split at h
      · obtain ⟨rfl, rfl⟩ := h
        have hl := (hs.ev x).cells hc
        have hid : nid ∉ lids cs := by rw [cells_ids hc]; exact hx x (by simp [hop, Op.operands])
        rename_i hsz
        obtain ⟨σ', hs', hσ, _⟩ := hs.newAt hf (ob := .box t cs) (.pointer (some ⟨w.heap.size, 0, none⟩)) (w' := w.alloc (.cells _ t)) (by simp) (fun b hb => heap_alloc_old w _ b hb) rfl rfl rfl
          (fun b hb => by simp only [blk, Option.some.injEq] at hb; subst hb; simp) (fun σ' hσ' hne => ObjR.box_at hl hs.lt hne hid hσ')
        refine fine_at (cv := .pointer (some ⟨w.heap.size, 0, none⟩)) ?_ hs' (.one (.lf (.ptr hf.lt hσ))) hd
        simp only [execOp, hop]
        exact run_v (by simp [Instr.box, newVar, newRow])
      · exact h.elim
    · exact h.elim
  case alloc t =>
    split at h
    · rename_i i hi
      obtain ⟨rfl, rfl⟩ := h
      obtain ⟨j, d, z, ht⟩ := typeOk (hT t i hi)
      have hl := ht.zls w S σ s.nx
      obtain ⟨σ', hs', hσ, _⟩ := hs.newAt hf (ob := .box t (pvs i.zero)) (.pointer (some ⟨w.heap.size, 0, none⟩)) (w' := w.alloc (.cells _ t)) (by simp) (fun b hb => heap_alloc_old w _ b hb) rfl rfl rfl
        (fun b hb => by simp only [blk, Option.some.injEq] at hb; subst hb; simp) (fun σ' hσ' hne => ObjR.box_at hl hs.lt hne (by rw [lids_pvs]; simp) hσ')
      refine fine_at (cv := .pointer (some ⟨w.heap.size, 0, none⟩)) ?_ hs' (.one (.lf (.ptr hf.lt hσ))) hd
      simp only [execOp, hop]
      exact run_v (by simp [Instr.alloc, ht.run_zero, newVar, newRow])
    · exact h.elim
  case buildSlice t len parts =>
    split at h
    · rename_i i hi
      split at h
      · rename_i e he
        split at h
        · rename_i ie hie
          split at h
          · rename_i cs hsz hfill
            split at h
            · rename_i ps hps
              obtain ⟨own, h⟩ := h
              obtain ⟨j, d, z, ht⟩ := typeOk (hT t i hi)
              obtain ⟨j', d', z', hte⟩ := typeOk (hT e ie hie)
              have hcs : cs = pvs ps := pures_spec hps
              subst hcs
              cases own with
              | false =>
                obtain ⟨rfl, rfl⟩ := h
                exact fine_buildPure hop hs ht he hte (Nat.le_of_ble_eq_true hsz) hfill (put_eff hd rfl)
              | true =>
              obtain ⟨rfl, rfl⟩ := h
              obtain ⟨arr, hr, hob⟩ := run_buildSlice_of hop hs ht he hte (Nat.le_of_ble_eq_true hsz) hfill
              obtain ⟨σ', hs', hσ, _⟩ := hs.newAt hf (ob := .row e ie.size (chunk ie.size len ps)) (w' := w.alloc (.cells arr e)) (.slice (some ⟨w.heap.size, 0, none⟩) len len) (by simp) (fun b hb => heap_alloc_old w _ b hb) rfl rfl rfl
                (fun b hb => by simp only [blk, Option.some.injEq] at hb; subst hb; simp) (fun σ' hσ' _ => hob σ' nid s.nx hσ')
              refine fine_at (cv := σ' nid) ?_ hs' (.one (.lf (.sl hf.lt (by rw [hσ]; rfl)))) hd
              rw [hσ]
              exact hr
            · exact h.elim
          · exact h.elim
        · exact h.elim
      · exact h.elim
    · exact h.elim

theorem step_sound (hT : TOK P T) (hs : SR C s S σ a w) (hf : Fresh s nid) (hd : ∀ k, o.dst = some k → k < s.n) (hx : ∀ x ∈ o.op.operands, nid ∉ (s.ev x).ids)
    (h : stepOp P T o s.ev s.hp nid fun v' u' => v' = v ∧ u' = u) : Fine P C o a w fun s' => s' = s.eff o.dst v u := by
  cases hfr : fresh? o.op with
  | true => exact step_fresh hT hs hf hfr hd hx h
  | false => exact vcOp_sound hT hs (step_vc hfr hd h)

end
end Go.Proofs.YtijjagkeaehhbaaGreat.Eng

/- The engine: a region that draws its order: one order stands for all. -/
set_option linter.unusedSimpArgs false
set_option linter.unusedVariables false
namespace Go.Proofs.YtijjagkeaehhbaaGreat.Eng
open Go.RowKit (Below)

def memb (x : Nat) : List Nat → Bool
  | [] => false
  | y :: r => Nat.beq x y || memb x r
theorem memb_iff {x : Nat} : ∀ {l : List Nat}, memb x l = true ↔ x ∈ l
  | [] => by simp [memb]
  | y :: r => by
    simp only [memb, Bool.or_eq_true, List.mem_cons, memb_iff (l := r)]
    constructor
    · rintro (h | h)
      · exact .inl (Nat.eq_of_beq_eq_true h)
      · exact .inr h
    · rintro (h | h)
      · subst h; exact .inl (Nat.beq_refl x)
      · exact .inr h

/-- What an operation did in the text's order: the slot, what lies in it, the object written; the slots and the objects read. -/
structure Ef where
  run : Bool
  d : Option Nat
  v : AV
  u : Option (Nat × AObj)
  rs : List Nat
  ri : List Nat

def objIds : Option (Nat × AObj) → List Nat
  | some (i, .box _ cs) => i :: lids cs
  | some (i, .row _ _ _) => [i]
  | none => []
def Ef.ids (e : Ef) : List Nat := e.v.ids ++ objIds e.u
def Ef.uid (e : Ef) : Option Nat := match e.u with | some (i, _) => some i | none => none
def hitO : Option Nat → List Nat → Bool
  | some d, l => memb d l
  | none, _ => false
def same : Option Nat → Option Nat → Bool
  | some a, some b => Nat.beq a b
  | _, _ => false
def confl (e e' : Ef) : Bool := hitO e.d e'.rs || hitO e'.d e.rs || same e.d e'.d || hitO e.uid e'.ri || hitO e'.uid e.ri || same e.uid e'.uid

/-- Which operations stand before each one, by the edges that bind. -/
def maskOf (es : List Edge) (acc : List Nat) : Nat :=
  match es with
  | [] => 0
  | e :: r => match Region.binds .any e, acc[e.on]? with
    | true, some m => maskOf r acc ||| (2 ^ e.on ||| m)
    | _, _ => maskOf r acc
def ancL : List Oper → List Nat → List Nat
  | [], acc => acc
  | o :: r, acc => ancL r (acc ++ [maskOf o.after.toList acc])
def edgesOk : List Oper → Nat → Bool
  | [], _ => true
  | o :: r, k => o.after.toList.all (fun e => !Region.binds .any e || Nat.blt e.on k) && edgesOk r (k + 1)

/-- k-th against all later ones. -/
def okRow (base k : Nat) (e : Ef) (m : Nat) : List Ef → List Nat → Nat → Bool
  | [], _, _ => true
  | e' :: r, [], j => false
  | e' :: r, m' :: rm, j => ((!(confl e e' || memb (base + k) e'.ids)) || Nat.testBit m' k) && !(memb (base + j) e.ids) && okRow base k e m r rm (j + 1)
def okAll (base : Nat) : List Ef → List Nat → Nat → Bool
  | [], _, _ => true
  | _ :: _, [], _ => false
  | e :: r, m :: rm, k => okRow base k e m r rm (k + 1) && okAll base r rm (k + 1)
def okTrace (ops : Array Oper) (base : Nat) (τ : List Ef) : Bool := edgesOk ops.toList 0 && okAll base τ (ancL ops.toList []) 0

def AS.bump (s : AS) (n : Nat) : AS := { s with nx := s.nx + n }
/-- A slot's truth value, spelt out. -/
def AS.lit (s : AS) (d : Nat) (b : Bool) : AS := { s with fr := fun i => bif Nat.beq i d then .pv (.bool b) else s.fr i }
def dstOk (s : AS) : Option Nat → Bool
  | some d => Nat.blt d s.n
  | none => true

def opOk (s : AS) (id : Nat) (o : Oper) : Bool := dstOk s o.dst && o.op.operands.toList.all fun x => !(memb id (s.ev x).ids)

noncomputable def vcDraw (P : Program) (T : Tab) (ops : Array Oper) (base : Nat) (k : Nat) (l : List Oper) : List Ef → AS → (List Ef → AS → Prop) → Prop :=
  List.rec (motive := fun _ => Nat → List Ef → AS → (List Ef → AS → Prop) → Prop) (fun _ acc s K => K acc.reverse s)
    (fun o _ next k acc s K =>
      let go (s : AS) : Prop := opOk s (base + k) o = true ∧ stepOp P T o s.ev s.hp (base + k) fun v u =>
        next (k + 1) (⟨true, o.dst, v, u, o.looksAt ops, memIds o.op s.ev⟩ :: acc) (s.eff o.dst v u) K
      match o.guard with
      | none => go s
      | some (j, want) => match (ops[j]?).bind (·.dst) with
        | some g => match s.fr g with
          | .one (.lf (.pv (.bool c))) => (c = want → go (s.lit g want)) ∧
            (c = !want → dstOk s o.dst = true ∧ next (k + 1) (⟨false, o.dst, .tup [], none, o.looksAt ops, []⟩ :: acc) ((s.lit g (!want)).eff o.dst (.tup []) none) K)
          | .tup [] => dstOk s o.dst = true ∧ next (k + 1) (⟨false, o.dst, .tup [], none, o.looksAt ops, []⟩ :: acc) (s.eff o.dst (.tup []) none) K
          | _ => False
        | none => False) l k
theorem vcDraw_cons (P : Program) (T : Tab) (ops : Array Oper) (base k : Nat) (o : Oper) (r : List Oper) (acc : List Ef) (s : AS) (K : List Ef → AS → Prop) : vcDraw P T ops base k (o :: r) acc s K =
    (let go (s : AS) : Prop := opOk s (base + k) o = true ∧ stepOp P T o s.ev s.hp (base + k) fun v u =>
      vcDraw P T ops base (k + 1) r (⟨true, o.dst, v, u, o.looksAt ops, memIds o.op s.ev⟩ :: acc) (s.eff o.dst v u) K
    match o.guard with
    | none => go s
    | some (j, want) => match (ops[j]?).bind (·.dst) with
      | some g => match s.fr g with
        | .one (.lf (.pv (.bool c))) => (c = want → go (s.lit g want)) ∧
          (c = !want → dstOk s o.dst = true ∧ vcDraw P T ops base (k + 1) r (⟨false, o.dst, .tup [], none, o.looksAt ops, []⟩ :: acc) ((s.lit g (!want)).eff o.dst (.tup []) none) K)
        | .tup [] => dstOk s o.dst = true ∧ vcDraw P T ops base (k + 1) r (⟨false, o.dst, .tup [], none, o.looksAt ops, []⟩ :: acc) (s.eff o.dst (.tup []) none) K
        | _ => False
      | none => False) := rfl

def vcRegionDraw (P : Program) (T : Tab) (ops : Array Oper) (s : AS) (K : AS → Prop) : Prop :=
  vcDraw P T ops s.nx 0 ops.toList [] (s.bump ops.size) fun τ s' => okTrace ops s.nx τ = true ∧ K s'

theorem lit_eq {s : AS} {d : Nat} {b : Bool} (h : s.fr d = .pv (.bool b)) : s.lit d b = s := by
  have : (fun i => bif Nat.beq i d then AV.pv (.bool b) else s.fr i) = s.fr := by
    funext i
    by_cases e : i = d
    · subst e; rw [Nat.beq_refl]; exact h.symm
    · rw [beq_ne e]; rfl
  unfold AS.lit
  rw [this]

/-- Which value decides. -/
def Decides (s : AS) (ops : Array Oper) (o : Oper) (b : Bool) : Prop :=
  match o.guard with
  | none => b = true
  | some (j, want) => ∃ g, (ops[j]?).bind (·.dst) = some g ∧ ((∃ c, s.fr g = .pv (.bool c) ∧ (c == want) = b) ∨ (s.fr g = .tup [] ∧ b = false))

structure Good (P : Program) (T : Tab) (ops : Array Oper) (base : Nat) (s : AS) (k : Nat) (o : Oper) (e : Ef) : Prop where
  d : e.d = o.dst
  dlt : ∀ d, o.dst = some d → d < s.n
  rs : e.rs = o.looksAt ops
  dec : Decides s ops o e.run
  ri : e.run = true → e.ri = memIds o.op s.ev
  fresh : e.run = true → ∀ x ∈ o.op.operands, base + k ∉ (s.ev x).ids
  step : e.run = true → stepOp P T o s.ev s.hp (base + k) fun v' u' => v' = e.v ∧ u' = e.u
  skip : e.run = false → e.v = .tup [] ∧ e.u = none

def runE (p : Nat → Bool) : List Ef → Nat → AS → AS
  | [], _, s => s
  | e :: r, k, s => runE p r (k + 1) (bif p k then s.eff e.d e.v e.u else s)

theorem runE_append (p : Nat → Bool) : ∀ (l l' : List Ef) (k : Nat) (s : AS), runE p (l ++ l') k s = runE p l' (k + l.length) (runE p l k s)
  | [], l', k, s => rfl
  | e :: r, l', k, s => by simp only [List.cons_append, runE, List.length_cons]; rw [runE_append p r l' (k + 1) _, Nat.add_assoc, Nat.add_comm 1]
theorem runE_congr {p q : Nat → Bool} : ∀ (l : List Ef) (k : Nat) (s : AS), (∀ i, i < l.length → p (k + i) = q (k + i)) → runE p l k s = runE q l k s
  | [], _, _, _ => rfl
  | e :: r, k, s, h => by
    simp only [runE]
    rw [show p k = q k from h 0 (by simp)]
    exact runE_congr r (k + 1) _ fun i hi => by have := h (i + 1) (by simp; omega); rwa [Nat.add_assoc, Nat.add_comm 1] 
theorem runE_none : ∀ (l : List Ef) (k : Nat) (s : AS), runE (fun _ => false) l k s = s
  | [], _, _ => rfl
  | e :: r, k, s => by simp only [runE, cond_false]; exact runE_none r (k + 1) s

/-- What the text's order tells. -/
def DrawC (P : Program) (T : Tab) (ops : Array Oper) (base : Nat) (s0 : AS) (K : List Ef → AS → Prop) (rest : List Oper) (k : Nat) (pre : List Ef) : Prop :=
  ∃ t : List Ef, t.length = rest.length ∧ K (pre ++ t) (runE (fun _ => true) (pre ++ t) 0 s0) ∧
      ∀ (i : Nat) (o : Oper), rest[i]? = some o → ∃ e, t[i]? = some e ∧ Good P T ops base (runE (fun j => Nat.blt j (k + i)) (pre ++ t) 0 s0) (k + i) o e

theorem vcDraw_spec {P : Program} {T : Tab} {ops : Array Oper} {base : Nat} {s0 : AS} {K : List Ef → AS → Prop} : ∀ (rest : List Oper) (k : Nat) (acc : List Ef) (s : AS), acc.length = k → s = runE (fun _ => true) acc.reverse 0 s0 →
    vcDraw P T ops base k rest acc s K → DrawC P T ops base s0 K rest k acc.reverse
  | [], k, acc, s, hk, hs, h => ⟨[], rfl, by simp only [List.append_nil]; rw [← hs]; exact h, by simp⟩
  | o :: r, k, acc, s, hk, hs, h => by
    -- one step on, for whatever effect
    have next : ∀ e : Ef, Good P T ops base s k o e → vcDraw P T ops base (k + 1) r (e :: acc) (s.eff e.d e.v e.u) K → DrawC P T ops base s0 K (o :: r) k acc.reverse := by
      intro e he hv
      obtain ⟨t, h1, h2, h3⟩ := vcDraw_spec r (k + 1) (e :: acc) _ (by simp [hk]) (by simp only [List.reverse_cons]; rw [runE_append, ← hs]; simp [runE]) hv
      simp only [List.reverse_cons, List.append_assoc, List.singleton_append] at h2 h3
      refine ⟨e :: t, by simp [h1], h2, fun i o' hi => ?_⟩
      match i with
      | 0 =>
        simp only [List.getElem?_cons_zero, Option.some.injEq] at hi
        subst hi
        refine ⟨e, rfl, ?_⟩
        have : runE (fun j => Nat.blt j (k + 0)) (acc.reverse ++ e :: t) 0 s0 = s := by
          rw [runE_append, List.length_reverse, hk, Nat.zero_add]
          rw [runE_congr (q := fun _ => true) acc.reverse 0 s0 (fun i hi => by simp only [Nat.zero_add, Nat.add_zero, Nat.blt_eq]; rw [List.length_reverse, hk] at hi; exact hi), ← hs]
          rw [runE_congr (q := fun _ => false) (e :: t) k s (fun i hi => by rw [Bool.eq_false_iff]; intro hb; simp only [Nat.add_zero] at hb; rw [Nat.blt_eq] at hb; omega)]
          exact runE_none _ _ _
        rw [this]
        exact he
      | i + 1 =>
        obtain ⟨e', h4, h5⟩ := h3 i o' (by simpa using hi)
        refine ⟨e', by simpa using h4, ?_⟩
        rw [show k + (i + 1) = k + 1 + i from by omega]
        exact h5
    have go : ∀ b : Decides s ops o true, (opOk s (base + k) o = true ∧ stepOp P T o s.ev s.hp (base + k) fun v u =>
        vcDraw P T ops base (k + 1) r (⟨true, o.dst, v, u, o.looksAt ops, memIds o.op s.ev⟩ :: acc) (s.eff o.dst v u) K) → DrawC P T ops base s0 K (o :: r) k acc.reverse := by
      rintro b ⟨h12, h3⟩
      obtain ⟨h1, h2⟩ := Bool.and_eq_true_iff.1 h12
      rw [List.all_eq_true] at h2
      obtain ⟨v, u, h4, h5⟩ := stepOp_ex h3
      exact next ⟨true, o.dst, v, u, o.looksAt ops, memIds o.op s.ev⟩ ⟨rfl, fun d hd => by rw [hd] at h1; exact (Nat.blt_eq ▸ h1 : d < s.n), rfl, b, fun _ => rfl, (fun _ x hx hm => by
        have := h2 x (Array.mem_toList_iff.2 hx); rw [memb_iff.2 hm] at this; cases this), fun _ => h5, fun h => by cases h⟩ h4
    rw [vcDraw_cons] at h
    simp only at h
    split at h
    · rename_i hg
      exact go (by simp only [Decides, hg]) h
    · rename_i j want hg
      split at h
      · rename_i g hgd
        split at h
        · rename_i c hc
          by_cases e : c = want
          · have h1 := h.1 e
            rw [lit_eq (by rw [hc, e])] at h1
            exact go (by simp only [Decides, hg]; exact ⟨g, hgd, .inl ⟨c, hc, by simp [e]⟩⟩) h1
          · have e' : c = !want := by cases c <;> cases want <;> simp_all
            obtain ⟨h1, h2⟩ := h.2 e'
            rw [lit_eq (by rw [hc, e'])] at h2
            exact next ⟨false, o.dst, .tup [], none, o.looksAt ops, []⟩ ⟨rfl, fun d hd => by rw [hd] at h1; exact (Nat.blt_eq ▸ h1 : d < s.n), rfl, by simp only [Decides, hg]; exact ⟨g, hgd, .inl ⟨c, hc, by simp [e]⟩⟩, (fun h => by cases h), (fun h => by cases h),
              (fun h => by cases h), fun _ => ⟨rfl, rfl⟩⟩ h2
        · rename_i hc
          obtain ⟨h1, h2⟩ := h
          exact next ⟨false, o.dst, .tup [], none, o.looksAt ops, []⟩ ⟨rfl, fun d hd => by rw [hd] at h1; exact (Nat.blt_eq ▸ h1 : d < s.n), rfl, by unfold Decides; rw [hg]; exact ⟨g, hgd, .inr ⟨hc, rfl⟩⟩, (fun h => by cases h), (fun h => by cases h),
            (fun h => by cases h), fun _ => ⟨rfl, rfl⟩⟩ h2
        · exact h.elim
      · exact h.elim

end Go.Proofs.YtijjagkeaehhbaaGreat.Eng

/- The engine: whatever order is drawn, it comes to the same. -/
set_option linter.unusedSimpArgs false
set_option linter.unusedVariables false
namespace Go.Proofs.YtijjagkeaehhbaaGreat.Eng
open Go.RowKit (Below)

section
variable {p q : Nat → Bool}

theorem eff_fr {s : AS} {d : Option Nat} {v : AV} {u : Option (Nat × AObj)} {i : Nat} : (s.eff d v u).fr i = bif hits d i then v else s.fr i := rfl
theorem hits_iff {d : Option Nat} {i : Nat} : hits d i = true ↔ d = some i := by
  cases d with
  | none => simp [hits]
  | some k => simp only [hits, Option.some.injEq]; exact ⟨fun h => (Nat.eq_of_beq_eq_true h).symm, fun h => by subst h; exact Nat.beq_refl _⟩
theorem eff_fr_ne {s : AS} {d : Option Nat} {v : AV} {u : Option (Nat × AObj)} {i : Nat} (h : d ≠ some i) : (s.eff d v u).fr i = s.fr i := by
  rw [eff_fr, show hits d i = false from by rw [Bool.eq_false_iff]; exact fun e => h (hits_iff.1 e)]; rfl
theorem eff_fr_eq {s : AS} {v : AV} {u : Option (Nat × AObj)} {i : Nat} : (s.eff (some i) v u).fr i = v := by
  rw [eff_fr, hits_iff.2 rfl]; rfl
theorem eff_hp_ne {s : AS} {d : Option Nat} {v : AV} {u : Option (Nat × AObj)} {i : Nat} (h : ∀ j o, u = some (j, o) → j ≠ i) : (s.eff d v u).hp i = s.hp i := by
  unfold AS.eff
  cases u with
  | none => rfl
  | some x =>
    obtain ⟨j, o⟩ := x
    have : Nat.beq i j = false := beq_ne fun e => h j o rfl e.symm
    simp only [this, cond_false]
theorem eff_hp_eq {s : AS} {d : Option Nat} {v : AV} {i : Nat} {o : AObj} : (s.eff d v (some (i, o))).hp i = some o := by
  simp only [AS.eff, Nat.beq_refl, cond_true]

theorem runE_fr {d : Nat} : ∀ (l : List Ef) (k : Nat) (s s' : AS), s.fr d = s'.fr d → (∀ i e, l[i]? = some e → e.d = some d → p (k + i) = q (k + i)) → (runE p l k s).fr d = (runE q l k s').fr d
  | [], _, _, _, h, _ => h
  | e :: r, k, s, s', h, hw => by
    simp only [runE]
    refine runE_fr r (k + 1) _ _ ?_ fun i e' hi he => by have := hw (i + 1) e' (by simpa using hi) he; rwa [Nat.add_assoc, Nat.add_comm 1]
    by_cases hd : e.d = some d
    · have := hw 0 e rfl hd
      simp only [Nat.add_zero] at this
      rw [this]
      cases q k
      · exact h
      · simp only [cond_true, hd, eff_fr_eq]
    · have key : ∀ (b : Bool) (t : AS), (bif b then t.eff e.d e.v e.u else t).fr d = t.fr d := fun b t => by cases b; rfl; exact eff_fr_ne hd
      rw [key, key, h]

theorem runE_hp {id : Nat} : ∀ (l : List Ef) (k : Nat) (s s' : AS), s.hp id = s'.hp id → (∀ i e o, l[i]? = some e → e.u = some (id, o) → p (k + i) = q (k + i)) → (runE p l k s).hp id = (runE q l k s').hp id
  | [], _, _, _, h, _ => h
  | e :: r, k, s, s', h, hw => by
    simp only [runE]
    refine runE_hp r (k + 1) _ _ ?_ fun i e' o hi he => by have := hw (i + 1) e' o (by simpa using hi) he; rwa [Nat.add_assoc, Nat.add_comm 1]
    by_cases hd : ∃ o, e.u = some (id, o)
    · obtain ⟨o, hd⟩ := hd
      have := hw 0 e o rfl hd
      simp only [Nat.add_zero] at this
      rw [this]
      cases q k
      · exact h
      · simp only [cond_true, hd, eff_hp_eq]
    · have key : ∀ (b : Bool) (t : AS), (bif b then t.eff e.d e.v e.u else t).hp id = t.hp id := fun b t => by cases b; rfl; exact eff_hp_ne fun j o hj e' => hd ⟨o, by rw [hj, e']⟩
      rw [key, key, h]

theorem runE_rest (l : List Ef) (k : Nat) (s : AS) : (runE p l k s).n = s.n ∧ (runE p l k s).nx = s.nx ∧ (runE p l k s).n0 = s.n0 ∧ (runE p l k s).c0 = s.c0 := by
  induction l generalizing k s with
  | nil => exact ⟨rfl, rfl, rfl, rfl⟩
  | cons e r ih =>
    simp only [runE]
    obtain ⟨h1, h2, h3, h4⟩ := ih (k + 1) (bif p k then s.eff e.d e.v e.u else s)
    have : (bif p k then s.eff e.d e.v e.u else s).n = s.n ∧ (bif p k then s.eff e.d e.v e.u else s).nx = s.nx ∧ (bif p k then s.eff e.d e.v e.u else s).n0 = s.n0 ∧ (bif p k then s.eff e.d e.v e.u else s).c0 = s.c0 := by
      cases p k <;> exact ⟨rfl, rfl, rfl, rfl⟩
    exact ⟨h1.trans this.1, h2.trans this.2.1, h3.trans this.2.2.1, h4.trans this.2.2.2⟩

theorem runE_fr_from (d : Nat) : ∀ (l : List Ef) (k : Nat) (s : AS), (runE p l k s).fr d = s.fr d ∨ ∃ i e, l[i]? = some e ∧ p (k + i) = true ∧ e.d = some d ∧ (runE p l k s).fr d = e.v
  | [], _, _ => .inl rfl
  | e :: r, k, s => by
    simp only [runE]
    rcases runE_fr_from d r (k + 1) (bif p k then s.eff e.d e.v e.u else s) with h | ⟨i, e', h1, h2, h3, h4⟩
    · cases hp : p k with
      | false => rw [hp] at h; exact .inl h
      | true =>
        rw [hp] at h
        simp only [cond_true] at h ⊢
        by_cases hd : e.d = some d
        · rw [hd, eff_fr_eq] at h
          exact .inr ⟨0, e, rfl, by rw [Nat.add_zero]; exact hp, hd, by rw [hd]; exact h⟩
        · rw [eff_fr_ne hd] at h; exact .inl h
    · exact .inr ⟨i + 1, e', by simpa using h1, by rw [← h2]; congr 1; omega, h3, h4⟩

theorem runE_hp_from (id : Nat) : ∀ (l : List Ef) (k : Nat) (s : AS), (runE p l k s).hp id = s.hp id ∨ ∃ i e o, l[i]? = some e ∧ p (k + i) = true ∧ e.u = some (id, o) ∧ (runE p l k s).hp id = some o
  | [], _, _ => .inl rfl
  | e :: r, k, s => by
    simp only [runE]
    rcases runE_hp_from id r (k + 1) (bif p k then s.eff e.d e.v e.u else s) with h | ⟨i, e', o, h1, h2, h3, h4⟩
    · cases hp : p k with
      | false => rw [hp] at h; exact .inl h
      | true =>
        rw [hp] at h
        simp only [cond_true] at h ⊢
        by_cases hd : ∃ o, e.u = some (id, o)
        · obtain ⟨o, hd⟩ := hd
          rw [hd, eff_hp_eq] at h
          exact .inr ⟨0, e, o, rfl, by rw [Nat.add_zero]; exact hp, hd, by rw [hd]; exact h⟩
        · rw [eff_hp_ne (fun j o hj e' => hd ⟨o, by rw [hj, e']⟩)] at h; exact .inl h
    · exact .inr ⟨i + 1, e', o, by simpa using h1, by rw [← h2]; congr 1; omega, h3, h4⟩

/-- The last one that wrote a slot. -/
theorem runE_last_fr {d : Nat} : ∀ (l : List Ef) (k : Nat) (s : AS) (i : Nat) (e : Ef), l[i]? = some e → e.d = some d → p (k + i) = true → (∀ j e', i < j → l[j]? = some e' → e'.d = some d → p (k + j) = false) → (runE p l k s).fr d = e.v
  | [], _, _, i, e, h, _, _, _ => by simp at h
  | e0 :: r, k, s, 0, e, h, hd, hp, hl => by
    simp only [List.getElem?_cons_zero, Option.some.injEq] at h
    subst h
    simp only [Nat.add_zero] at hp
    simp only [runE, hp, cond_true]
    rw [runE_fr (q := fun _ => false) (s' := s.eff e0.d e0.v e0.u) r (k + 1) _ rfl fun j e' hj he => by have := hl (j + 1) e' (by omega) (by simpa using hj) he; rwa [Nat.add_assoc, Nat.add_comm 1], runE_none, hd, eff_fr_eq]
  | e0 :: r, k, s, i + 1, e, h, hd, hp, hl => by
    simp only [runE]
    exact runE_last_fr r (k + 1) _ i e (by simpa using h) hd (by rw [← hp]; congr 1; omega) fun j e' hij hj he => by have := hl (j + 1) e' (by omega) (by simpa using hj) he; rwa [Nat.add_assoc, Nat.add_comm 1]
theorem runE_last_hp {id : Nat} {ob : AObj} : ∀ (l : List Ef) (k : Nat) (s : AS) (i : Nat) (e : Ef), l[i]? = some e → e.u = some (id, ob) → p (k + i) = true → (∀ j e' o, i < j → l[j]? = some e' → e'.u = some (id, o) → p (k + j) = false) → (runE p l k s).hp id = some ob
  | [], _, _, i, e, h, _, _, _ => by simp at h
  | e0 :: r, k, s, 0, e, h, hd, hp, hl => by
    simp only [List.getElem?_cons_zero, Option.some.injEq] at h
    subst h
    simp only [Nat.add_zero] at hp
    simp only [runE, hp, cond_true]
    rw [runE_hp (q := fun _ => false) (s' := s.eff e0.d e0.v e0.u) r (k + 1) _ rfl fun j e' o hj he => by have := hl (j + 1) e' o (by omega) (by simpa using hj) he; rwa [Nat.add_assoc, Nat.add_comm 1], runE_none, hd, eff_hp_eq]
  | e0 :: r, k, s, i + 1, e, h, hd, hp, hl => by
    simp only [runE]
    exact runE_last_hp r (k + 1) _ i e (by simpa using h) hd (by rw [← hp]; congr 1; omega) fun j e' o hij hj he => by have := hl (j + 1) e' o (by omega) (by simpa using hj) he; rwa [Nat.add_assoc, Nat.add_comm 1]

end

/-- Listed ones bear all that stands before them. -/
def Closed (ops : Array Oper) (L : Nat → Bool) : Prop := ∀ (k : Nat) (o : Oper), L k = true → ops[k]? = some o → ∀ e ∈ o.after, Region.binds .any e = true → L e.on = true
def Ready (ops : Array Oper) (L : Nat → Bool) (k : Nat) : Prop := ∀ (o : Oper), ops[k]? = some o → ∀ e ∈ o.after, Region.binds .any e = true → L e.on = true
def Bef (ops : Array Oper) (i k : Nat) : Prop := ∀ L, Closed ops L → Ready ops L k → L i = true

theorem ancL_spec {ops : Array Oper} : ∀ (rest : List Oper) (acc : List Nat), (∀ i, rest[i]? = ops[acc.length + i]?) → (∀ k m, acc[k]? = some m → ∀ i, Nat.testBit m i = true → Bef ops i k) →
    ∀ k m, (ancL rest acc)[k]? = some m → ∀ i, Nat.testBit m i = true → Bef ops i k
  | [], acc, _, h => h
  | o :: r, acc, hr, h => by
    simp only [ancL]
    refine ancL_spec r _ (fun i => by have := hr (i + 1); simp only [List.getElem?_cons_succ] at this; rw [this, List.length_append]; congr 1; simp; omega) fun k m hk i hi => ?_
    rw [List.getElem?_append] at hk
    split at hk
    · exact h k m hk i hi
    · rename_i hlt
      have hk0 : k = acc.length := by
        rcases Nat.lt_or_ge (k - acc.length) 1 with h1 | h1
        · omega
        · rw [List.getElem?_eq_none (by simpa using h1)] at hk; cases hk
      subst hk0
      simp only [Nat.sub_self, List.getElem?_cons_zero, Option.some.injEq] at hk
      subst hk
      have ho : ops[acc.length]? = some o := by have := hr 0; simpa using this.symm
      intro L hc hrd
      have hp := hrd o ho
      have key : ∀ es : List Edge, (∀ e ∈ es, Region.binds .any e = true → L e.on = true) → Nat.testBit (maskOf es acc) i = true → L i = true := by
        intro es
        induction es with
        | nil => intro _ hb; simp [maskOf] at hb
        | cons e es ih =>
          intro hes hb
          simp only [maskOf] at hb
          split at hb
          · rename_i m hbind hm
            rw [Nat.testBit_or, Nat.testBit_or] at hb
            rcases Bool.or_eq_true_iff.1 hb with hb | hb
            · exact ih (fun e' he' => hes e' (List.mem_cons_of_mem _ he')) hb
            · have hLe := hes e (List.mem_cons_self) hbind
              rcases Bool.or_eq_true_iff.1 hb with hb | hb
              · rw [Nat.testBit_two_pow] at hb
                have := of_decide_eq_true hb
                subst this
                exact hLe
              · exact h e.on m hm i hb L hc fun o' ho' => hc e.on o' hLe ho'
          · exact ih (fun e' he' => hes e' (List.mem_cons_of_mem _ he')) hb
      exact key o.after.toList (fun e he => hp e (Array.mem_toList_iff.1 he)) hi

theorem edgesOk_spec : ∀ (l : List Oper) (k : Nat), edgesOk l k = true → ∀ (i : Nat) (o : Oper), l[i]? = some o → ∀ e ∈ o.after, Region.binds .any e = true → e.on < k + i
  | [], _, _, i, o, h, _, _, _ => by simp at h
  | o0 :: r, k, h, i, o, hi, e, he, hb => by
    simp only [edgesOk, Bool.and_eq_true, List.all_eq_true] at h
    match i with
    | 0 =>
      simp only [List.getElem?_cons_zero, Option.some.injEq] at hi
      subst hi
      have := h.1 e (Array.mem_toList_iff.2 he)
      simp only [hb, Bool.not_true, Bool.false_or] at this
      rw [Nat.blt_eq] at this
      exact this
    | i + 1 =>
      have := edgesOk_spec r (k + 1) h.2 i o (by simpa using hi) e he hb
      omega

theorem okRow_spec {base k : Nat} {e : Ef} {m : Nat} : ∀ (r : List Ef) (rm : List Nat) (j : Nat), okRow base k e m r rm j = true → ∀ (i : Nat) (e' : Ef), r[i]? = some e' →
    base + (j + i) ∉ e.ids ∧ ((confl e e' = true ∨ base + k ∈ e'.ids) → ∃ m', rm[i]? = some m' ∧ Nat.testBit m' k = true)
  | [], _, _, _, i, e', h => by simp at h
  | e0 :: r, [], j, h, i, e', hi => by simp [okRow] at h
  | e0 :: r, m' :: rm, j, h, i, e', hi => by
    simp only [okRow, Bool.and_eq_true, Bool.or_eq_true, Bool.not_eq_true'] at h
    obtain ⟨⟨h1, h2⟩, h3⟩ := h
    match i with
    | 0 =>
      simp only [List.getElem?_cons_zero, Option.some.injEq] at hi
      subst hi
      refine ⟨(fun hm => by rw [Nat.add_zero] at hm; rw [memb_iff.2 hm] at h2; cases h2), fun hc => ⟨m', rfl, ?_⟩⟩
      rcases h1 with h1 | h1
      · rw [Bool.or_eq_false_iff] at h1
        rcases hc with hc | hc
        · rw [h1.1] at hc; cases hc
        · have := h1.2; rw [memb_iff.2 hc] at this; cases this
      · exact h1
    | i + 1 =>
      have := okRow_spec r rm (j + 1) h3 i e' (by simpa using hi)
      rw [show j + (i + 1) = j + 1 + i from by omega]
      simpa using this
theorem okAll_spec {base : Nat} : ∀ (τ : List Ef) (ms : List Nat) (k : Nat), okAll base τ ms k = true → ∀ (i j : Nat) (e e' : Ef), i < j → τ[i]? = some e → τ[j]? = some e' →
    base + (k + j) ∉ e.ids ∧ ((confl e e' = true ∨ base + (k + i) ∈ e'.ids) → ∃ m, ms[j]? = some m ∧ Nat.testBit m (k + i) = true)
  | [], _, _, _, i, j, e, e', _, h, _ => by simp at h
  | e0 :: r, [], k, h, _, _, _, _, _, _, _ => by simp [okAll] at h
  | e0 :: r, m :: rm, k, h, i, j, e, e', hij, hi, hj => by
    simp only [okAll, Bool.and_eq_true] at h
    obtain ⟨j, rfl⟩ : ∃ j', j = j' + 1 := ⟨j - 1, by omega⟩
    match i with
    | 0 =>
      simp only [List.getElem?_cons_zero, Option.some.injEq] at hi
      subst hi
      obtain ⟨h1, h2⟩ := okRow_spec r rm (k + 1) h.1 j e' (by simpa using hj)
      rw [show k + (j + 1) = k + 1 + j from by omega, Nat.add_zero]
      exact ⟨h1, fun hc => by simpa using h2 hc⟩
    | i + 1 =>
      obtain ⟨h1, h2⟩ := okAll_spec r rm (k + 1) h.2 i j e e' (by omega) (by simpa using hi) (by simpa using hj)
      rw [show k + (j + 1) = k + 1 + j from by omega, show k + (i + 1) = k + 1 + i from by omega]
      exact ⟨h1, fun hc => by simpa using h2 hc⟩

end Go.Proofs.YtijjagkeaehhbaaGreat.Eng

/- The engine: a region that draws its order, whole. -/
set_option linter.unusedSimpArgs false
set_option linter.unusedVariables false
namespace Go.Proofs.YtijjagkeaehhbaaGreat.Eng
open Go.RowKit (Below)

theorem AS.ext' {s t : AS} (h1 : s.fr = t.fr) (h2 : s.hp = t.hp) (h3 : s.nx = t.nx) (h4 : s.n = t.n) (h5 : s.n0 = t.n0) (h6 : s.c0 = t.c0) : s = t := by
  cases s; cases t; simp only at h1 h2 h3 h4 h5 h6; subst h1 h2 h3 h4 h5 h6; rfl

theorem same_some {d : Nat} : same (some d) (some d) = true := Nat.beq_refl d
theorem conf1 {e e' : Ef} {d : Nat} (h : e.d = some d) (h' : d ∈ e'.rs) : confl e e' = true ∧ confl e' e = true := by
  have : hitO e.d e'.rs = true := by rw [h]; exact memb_iff.2 h'
  simp [confl, this]
theorem conf2 {e e' : Ef} {d : Nat} (h : e.d = some d) (h' : e'.d = some d) : confl e e' = true ∧ confl e' e = true := by
  have h1 : same e.d e'.d = true := by rw [h, h']; exact same_some
  have h2 : same e'.d e.d = true := by rw [h, h']; exact same_some
  simp [confl, h1, h2]
theorem conf3 {e e' : Ef} {i : Nat} {o : AObj} (h : e.u = some (i, o)) (h' : i ∈ e'.ri) : confl e e' = true ∧ confl e' e = true := by
  have : hitO e.uid e'.ri = true := by rw [show e.uid = some i from by rw [Ef.uid, h]]; exact memb_iff.2 h'
  simp [confl, this]
theorem conf4 {e e' : Ef} {i : Nat} {o o' : AObj} (h : e.u = some (i, o)) (h' : e'.u = some (i, o')) : confl e e' = true ∧ confl e' e = true := by
  have a : e.uid = some i := by rw [Ef.uid, h]
  have b : e'.uid = some i := by rw [Ef.uid, h']
  have h1 : same e.uid e'.uid = true := by rw [a, b]; exact same_some
  have h2 : same e'.uid e.uid = true := by rw [a, b]; exact same_some
  simp [confl, h1, h2]

/-- What is known of a region in the text's order. -/
structure Laid (P : Program) (T : Tab) (ops : Array Oper) (base : Nat) (s0 : AS) (τ : List Ef) : Prop where
  len : τ.length = ops.size
  good : ∀ (k : Nat) (o : Oper), ops[k]? = some o → ∃ e, τ[k]? = some e ∧ Good P T ops base (runE (fun j => Nat.blt j k) τ 0 s0) k o e
  edge : ∀ (k : Nat) (o : Oper), ops[k]? = some o → ∀ e ∈ o.after, Region.binds .any e = true → e.on < k
  pair : ∀ (i j : Nat) (e e' : Ef), i < j → τ[i]? = some e → τ[j]? = some e' → base + j ∉ e.ids ∧ ((confl e e' = true ∨ base + i ∈ e'.ids) → Bef ops i j)
  fr : ∀ d, ∀ i ∈ (s0.fr d).ids, i < base
  hp : ∀ id o, s0.hp id = some o → id < base
  bx : ∀ id t cs, s0.hp id = some (.box t cs) → ∀ i ∈ lids cs, i < base
  n0 : s0.n0 ≤ base
  nx : s0.nx = base + ops.size

section
variable {P : Program} {T : Tab} {ops : Array Oper} {base : Nat} {s0 : AS} {τ : List Ef} {L : Nat → Bool} {k : Nat} {o : Oper} {e : Ef} {C : Ctx} {S : Nat → Prop} {σ : Nat → Value} {a : Act} {w : World}

theorem Laid.agree (hl : Laid P T ops base s0 τ) (hc : Closed ops L) (hr : Ready ops L k) (hk : L k = false) (he : τ[k]? = some e) {i : Nat} {e' : Ef} (hi : τ[i]? = some e') (hf : confl e e' = true ∧ confl e' e = true) : L i = Nat.blt i k := by
  rcases Nat.lt_trichotomy i k with h | h | h
  · rw [show Nat.blt i k = true from by rw [Nat.blt_eq]; exact h]
    exact (hl.pair i k e' e h hi he).2 (.inl hf.2) L hc hr
  · subst h
    rw [hk, show Nat.blt i i = false from by rw [Bool.eq_false_iff]; intro hb; rw [Nat.blt_eq] at hb; omega]
  · rw [show Nat.blt i k = false from by rw [Bool.eq_false_iff]; intro hb; rw [Nat.blt_eq] at hb; omega]
    rw [Bool.eq_false_iff]
    intro hLi
    have := (hl.pair k i e e' h he hi).2 (.inl hf.1) L hc (fun o ho => hc i o hLi ho)
    rw [hk] at this
    cases this

theorem Laid.slot (hl : Laid P T ops base s0 τ) (hc : Closed ops L) (hr : Ready ops L k) (hk : L k = false) (he : τ[k]? = some e) {d : Nat} (hd : d ∈ e.rs) : (runE L τ 0 s0).fr d = (runE (fun j => Nat.blt j k) τ 0 s0).fr d :=
  runE_fr τ 0 s0 s0 rfl fun i e' hi hw => by rw [Nat.zero_add]; exact hl.agree hc hr hk he hi (conf1 hw hd).symm
theorem Laid.obj (hl : Laid P T ops base s0 τ) (hc : Closed ops L) (hr : Ready ops L k) (hk : L k = false) (he : τ[k]? = some e) {d : Nat} (hd : d ∈ e.ri) : (runE L τ 0 s0).hp d = (runE (fun j => Nat.blt j k) τ 0 s0).hp d :=
  runE_hp τ 0 s0 s0 rfl fun i e' o hi hw => by rw [Nat.zero_add]; exact hl.agree hc hr hk he hi (conf3 hw hd).symm

theorem Laid.fresh (hl : Laid P T ops base s0 τ) (hc : Closed ops L) (hr : Ready ops L k) (hk : L k = false) (hks : k < ops.size) (he : τ[k]? = some e) : Fresh (runE L τ 0 s0) (base + k) := by
  obtain ⟨h1, h2, h3, h4⟩ := runE_rest (p := L) τ 0 s0
  -- nobody listed bears the name
  have no : ∀ i e', τ[i]? = some e' → L i = true → base + k ∉ e'.ids := by
    intro i e' hi hLi hm
    rcases Nat.lt_trichotomy i k with h | h | h
    · exact (hl.pair i k e' e h hi he).1 hm
    · subst h; rw [hk] at hLi; cases hLi
    · have := (hl.pair k i e e' h he hi).2 (.inr hm) L hc (fun o ho => hc i o hLi ho)
      rw [hk] at this
      cases this
  refine ⟨?_, fun d hm => ?_, fun j t cs hj hm => ?_, by rw [h2, hl.nx]; omega, by rw [h3]; have := hl.n0; omega⟩
  · rcases runE_hp_from (p := L) (base + k) τ 0 s0 with h | ⟨i, e', ob, hi, hLi, hu, _⟩
    · rw [h]
      cases hh : s0.hp (base + k) with
      | none => rfl
      | some ob => have := hl.hp _ _ hh; omega
    · refine absurd ?_ (no i e' hi (by rwa [Nat.zero_add] at hLi))
      refine List.mem_append_right _ ?_
      rw [hu]
      cases ob <;> simp [objIds]
  · rcases runE_fr_from (p := L) d τ 0 s0 with h | ⟨i, e', hi, hLi, hu, hv⟩
    · rw [h] at hm; have := hl.fr d _ hm; omega
    · rw [hv] at hm
      exact no i e' hi (by rwa [Nat.zero_add] at hLi) (List.mem_append_left _ hm)
  · rcases runE_hp_from (p := L) j τ 0 s0 with h | ⟨i, e', ob, hi, hLi, hu, hv⟩
    · rw [h] at hj; have := hl.bx _ _ _ hj _ hm; omega
    · rw [hv] at hj
      simp only [Option.some.injEq] at hj
      subst hj
      refine no i e' hi (by rwa [Nat.zero_add] at hLi) (List.mem_append_right _ ?_)
      rw [hu]
      exact List.mem_cons_of_mem _ hm

theorem Laid.next (hl : Laid P T ops base s0 τ) (hc : Closed ops L) (hr : Ready ops L k) (hk : L k = false) (he : τ[k]? = some e) :
    (runE L τ 0 s0).eff e.d e.v e.u = runE (fun i => L i || Nat.beq i k) τ 0 s0 := by
  obtain ⟨h1, h2, h3, h4⟩ := runE_rest (p := L) τ 0 s0
  obtain ⟨g1, g2, g3, g4⟩ := runE_rest (p := fun i => L i || Nat.beq i k) τ 0 s0
  refine AS.ext' ?_ ?_ (h2.trans g2.symm) (h1.trans g1.symm) (h3.trans g3.symm) (h4.trans g4.symm)
  · funext d
    by_cases hd : e.d = some d
    · rw [hd, eff_fr_eq]
      refine (runE_last_fr τ 0 s0 k e he hd (by simp) fun j e' hj hi hw => ?_).symm
      rw [Nat.zero_add, hl.agree hc hr hk he hi (conf2 hd hw), beq_ne (by omega), Bool.or_false, Bool.eq_false_iff]
      intro hb; rw [Nat.blt_eq] at hb; omega
    · rw [eff_fr_ne hd]
      refine runE_fr τ 0 s0 s0 rfl fun i e' hi hw => ?_
      have : i ≠ k := fun e1 => by subst e1; rw [he] at hi; simp only [Option.some.injEq] at hi; subst hi; exact hd hw
      simp only [Nat.zero_add, beq_ne this, Bool.or_false]
  · funext d
    by_cases hd : ∃ ob, e.u = some (d, ob)
    · obtain ⟨ob, hd⟩ := hd
      rw [hd, eff_hp_eq]
      refine (runE_last_hp τ 0 s0 k e he hd (by simp) fun j e' o' hj hi hw => ?_).symm
      rw [Nat.zero_add, hl.agree hc hr hk he hi (conf4 hd hw), beq_ne (by omega), Bool.or_false, Bool.eq_false_iff]
      intro hb; rw [Nat.blt_eq] at hb; omega
    · rw [eff_hp_ne fun j ob hj e1 => hd ⟨ob, by rw [hj, e1]⟩]
      refine runE_hp τ 0 s0 s0 rfl fun i e' o' hi hw => ?_
      have : i ≠ k := fun e1 => by subst e1; rw [he] at hi; simp only [Option.some.injEq] at hi; subst hi; exact hd ⟨o', hw⟩
      simp only [Nat.zero_add, beq_ne this, Bool.or_false]

theorem decides_wanted {s : AS} (hs : SR C s S σ a w) {b : Bool} (h : Decides s ops o b) : Region.wanted o (yielded ops a.tmps) = b := by
  unfold Decides at h
  unfold Region.wanted
  split at h
  · rename_i hg; rw [hg]; exact h.symm
  · rename_i j want hg
    rw [hg]
    obtain ⟨g, h1, ⟨c, h2, h3⟩ | ⟨h2, h3⟩⟩ := h
    · have hv := hs.fr g
      rw [h2] at hv
      have hv := hv.bool_inv
      have : a.tmps[g]? = some (.bool c) := by
        rcases Nat.lt_or_ge g a.tmps.size with hlt | hge
        · rw [Array.getElem?_eq_getElem hlt]
          simp only [Array.getD_eq_getD_getElem?, Array.getElem?_eq_getElem hlt, Option.getD_some] at hv
          rw [hv]
        · simp only [Array.getD_eq_getD_getElem?, Array.getElem?_eq_none hge, Option.getD_none] at hv
          cases hv
      simp only [yielded, h1, Option.bind_some, this]
      rw [← h3]
      cases c <;> cases want <;> rfl
    · have hv := hs.fr g
      rw [h2] at hv
      subst h3
      have key : ∀ x : Option Value, (x = none ∨ ∃ vs, x = some (.tuple vs)) → ((match x with | some (.bool b) => some b | _ => none : Option Bool) == some want) = false := by
        rintro x (rfl | ⟨vs, rfl⟩) <;> rfl
      have hx : a.tmps[g]? = none ∨ ∃ vs, a.tmps[g]? = some (.tuple vs) := by
        cases hx : a.tmps[g]? with
        | none => exact .inl rfl
        | some x =>
          simp only [Array.getD_eq_getD_getElem?, hx, Option.getD_some] at hv
          cases hv with
          | tup hn _ => exact .inr ⟨_, rfl⟩
      simp only [yielded, h1, Option.bind_some]
      exact key _ hx

theorem decides_congr {s s' : AS} (h : ∀ d ∈ o.looksAt ops, s.fr d = s'.fr d) {b : Bool} (hd : Decides s ops o b) : Decides s' ops o b := by
  unfold Decides at *
  split at hd
  · exact hd
  · rename_i j want hg
    obtain ⟨g, h1, h2⟩ := hd
    refine ⟨g, h1, ?_⟩
    rw [← h g ?_]
    · exact h2
    · unfold Oper.looksAt
      rw [hg]
      refine List.mem_append_right _ ?_
      simp [h1]

/-- One operation, whichever comes next. -/
theorem Laid.one (hT : TOK P T) (hl : Laid P T ops base s0 τ) (hc : Closed ops L) (hr : Ready ops L k) (hk : L k = false) (ho : ops[k]? = some o) (hs : SR C (runE L τ 0 s0) S σ a w) {Q : Exit → Act → World → Prop} {K : Act → World → Prop}
    (hK : ∀ a' w', St C (runE (fun i => L i || Nat.beq i k) τ 0 s0) a' w' → K a' w') : wpOp P ops Q k K a w := by
  have hks : k < ops.size := (Array.getElem?_eq_some_iff.1 ho).1
  obtain ⟨e, he, hg⟩ := hl.good k o ho
  have hsl : ∀ d ∈ o.looksAt ops, (runE (fun j => Nat.blt j k) τ 0 s0).fr d = (runE L τ 0 s0).fr d := fun d hd => (hl.slot hc hr hk he (by rw [hg.rs]; exact hd)).symm
  have hev : ∀ x ∈ o.op.operands, (runE (fun j => Nat.blt j k) τ 0 s0).ev x = (runE L τ 0 s0).ev x := by
    intro x hx
    cases x with
    | tmp t => exact hsl t (List.mem_append_left _ (List.mem_filterMap.2 ⟨.tmp t, Array.mem_toList_iff.2 hx, rfl⟩))
    | _ => rfl
  have hn : ∀ d, o.dst = some d → d < (runE L τ 0 s0).n := fun d hd => by
    have := hg.dlt d hd
    rw [(runE_rest (p := fun j => Nat.blt j k) τ 0 s0).1] at this
    rw [(runE_rest (p := L) τ 0 s0).1]
    exact this
  have hw := decides_wanted hs (decides_congr hsl hg.dec)
  have hnx := hl.next hc hr hk he
  unfold wpOp
  simp only [ho]
  cases hrun : e.run with
  | true =>
    rw [hrun] at hw
    simp only [hw, if_true]
    refine .inl ?_
    have hstep := hg.step hrun
    rw [stepOp_congr hev (fun j hj => (hl.obj hc hr hk he (by rw [hg.ri hrun]; exact hj)).symm)] at hstep
    have := step_sound hT hs (hl.fresh hc hr hk hks he) hn (fun x hx => by rw [← hev x hx]; exact hg.fresh hrun x hx) hstep Q
    refine Oper.wp_mono ?_ this
    rintro a' w' ⟨s', rfl, hs'⟩
    rw [← hg.d, hnx] at hs'
    exact hK a' w' hs'
  | false =>
    rw [hrun] at hw
    simp only [hw, Bool.false_eq_true, if_false]
    obtain ⟨hv, hu⟩ := hg.skip hrun
    obtain ⟨s', h1, h2⟩ := hs.put (d := o.dst) (v := .tup []) (cv := undef) (.tup rfl (by simp)) (put_eff hn rfl)
    subst h1
    refine hK _ _ ⟨S, σ, ?_⟩
    rw [← hnx, hg.d, hv, hu]
    exact h2

theorem draw_main (hT : TOK P T) (hl : Laid P T ops base s0 τ) {Q : Exit → Act → World → Prop} (hQ : ∀ a' w', St C (runE (fun _ => true) τ 0 s0) a' w' → Q .normal a' w') :
    ∀ (fuel : Nat) (listed : Array Bool) (rem : List Nat) (a : Act) (w : World), listed.size = ops.size → rem.Nodup → (∀ i, i < ops.size → listed.getD i false = false → i ∈ rem) → rem.length ≤ fuel → Closed ops (fun i => listed.getD i false) →
      St C (runE (fun i => listed.getD i false) τ 0 s0) a w → wpAny P .any ops Q fuel listed a w := by
  intro fuel
  have fin : ∀ (listed : Array Bool) (a : Act) (w : World), listed.size = ops.size → (∀ i, i < ops.size → listed.getD i false = true) → St C (runE (fun i => listed.getD i false) τ 0 s0) a w → Q .normal a w := by
    intro listed a w hsz hall hst
    refine hQ a w ?_
    rw [runE_congr (q := fun i => listed.getD i false)]
    · exact hst
    · intro i hi
      rw [Nat.zero_add, hall i (by rw [← hl.len]; exact hi)]
  have noready : ∀ listed : Array Bool, listed.size = ops.size → Region.ready .any ops listed = [] → ∀ i, i < ops.size → listed.getD i false = true := by
    intro listed hsz hnil i
    induction i using Nat.strongRecOn with
    | _ i ih =>
      intro hi
      by_cases hb : listed.getD i false = true
      · exact hb
      · exfalso
        have hmem : i ∈ Region.ready .any ops listed := by
          rw [mem_ready]
          have ho : ops[i]? = some ops[i] := Array.getElem?_eq_getElem hi
          refine ⟨?_, _, ho, fun e he hbd => ?_⟩
          · have hlt : i < listed.size := by omega
            simp only [Array.getD_eq_getD_getElem?, Array.getElem?_eq_getElem hlt, Option.getD_some] at hb ⊢
            simpa using hb
          · have := hl.edge i _ ho e he hbd
            exact ih e.on this (by omega)
        rw [hnil] at hmem
        cases hmem
  induction fuel with
  | zero =>
    intro listed rem a w hsz hnd hrem hlen hc hst
    have hr0 : rem = [] := List.eq_nil_of_length_eq_zero (by omega)
    subst hr0
    have hall : ∀ i, i < ops.size → listed.getD i false = true := fun i hi => by
      by_cases hb : listed.getD i false = true
      · exact hb
      · have := hrem i hi (by simpa using hb); cases this
    refine ⟨?_, fin listed a w hsz hall hst⟩
    rw [List.eq_nil_iff_forall_not_mem]
    intro i hi
    obtain ⟨h1, o, ho, _⟩ := mem_ready.1 hi
    have hlt : i < ops.size := (Array.getElem?_eq_some_iff.1 ho).1
    have := hall i hlt
    have hlt' : i < listed.size := by omega
    simp only [Array.getD_eq_getD_getElem?, Array.getElem?_eq_getElem hlt', Option.getD_some] at this h1
    rw [this] at h1
    cases h1
  | succ fuel ih =>
    intro listed rem a w hsz hnd hrem hlen hc hst
    refine ⟨fun hnil => fin listed a w hsz (noready listed hsz hnil) hst, fun k hk => ?_⟩
    obtain ⟨h1, o, ho, hpre⟩ := mem_ready.1 hk
    have hlt : k < ops.size := (Array.getElem?_eq_some_iff.1 ho).1
    have hlt' : k < listed.size := by omega
    have hkf : listed.getD k false = false := by
      simp only [Array.getD_eq_getD_getElem?, Array.getElem?_eq_getElem hlt', Option.getD_some] at h1 ⊢
      exact h1
    obtain ⟨S, σ, hs⟩ := hst
    refine hl.one hT hc (fun o' ho' e he hb => by rw [ho] at ho'; simp only [Option.some.injEq] at ho'; subst ho'; exact hpre e he hb) hkf ho hs fun a' w' hst' => ?_
    have hL : (fun i => (listed.setIfInBounds k true).getD i false) = fun i => listed.getD i false || Nat.beq i k := by
      funext i
      by_cases hik : k = i
      · subst hik
        rw [Nat.beq_refl, Bool.or_true]
        simp [hlt']
      · rw [getD_set_ne false hik, beq_ne (Ne.symm hik), Bool.or_false]
    refine ih (listed.setIfInBounds k true) (rem.erase k) a' w' (by simpa using hsz) (hnd.erase k) (fun i hi hf => ?_) ?_ ?_ ?_
    · have hik : k ≠ i := fun e => by subst e; have := congrFun hL k; simp only [Nat.beq_refl, Bool.or_true] at this; rw [this] at hf; cases hf
      rw [getD_set_ne false hik] at hf
      exact (List.mem_erase_of_ne (Ne.symm hik)).2 (hrem i hi hf)
    · have := List.length_erase_of_mem (hrem k hlt hkf)
      omega
    · intro k' o' hk' ho' e he hb
      have h2 : (listed.setIfInBounds k true).getD k' false = (listed.getD k' false || Nat.beq k' k) := congrFun hL k'
      have hk' : (listed.setIfInBounds k true).getD k' false = true := hk'
      rw [h2] at hk'
      have h3 : (listed.setIfInBounds k true).getD e.on false = (listed.getD e.on false || Nat.beq e.on k) := congrFun hL e.on
      refine h3.trans ?_
      rcases Bool.or_eq_true_iff.1 hk' with hk' | hk'
      · rw [Bool.or_eq_true]; exact .inl (hc k' o' hk' ho' e he hb)
      · have := Nat.eq_of_beq_eq_true hk'
        subst this
        rw [ho] at ho'
        simp only [Option.some.injEq] at ho'
        subst ho'
        rw [Bool.or_eq_true]; exact .inl (hpre e he hb)
    · rw [hL]; exact hst'

theorem SR.bump {s : AS} (hs : SR C s S σ a w) (n : Nat) : SR C (s.bump n) S σ a w := by
  have hle : s.nx ≤ s.nx + n := Nat.le_add_right _ _
  refine ⟨hs.size, hs.defers, fun i => (hs.fr i).mono (fun _ _ => rfl) (fun _ h => h) (fun _ _ => rfl) hle, ⟨fun id o ho => Nat.lt_of_lt_of_le (hs.hp.lt id o ho) hle, fun id o ho => ?_, hs.hp.notS, hs.hp.own, hs.hp.inj⟩, hs.lt, hs.le, hs.keep, Nat.le_trans hs.nx hle, hs.hs, hs.up⟩
  exact (hs.hp.obj id o ho).mono (fun _ _ => rfl) (fun _ h => h) (fun _ _ => rfl) hle (hs.hp.lt id o ho) (fun b _ => rfl)

theorem draw_sound (hT : TOK P T) (hm : P.follows .mixedOrders = true) {s : AS} (hs : SR C s S σ a w) {K : AS → Prop} (h : vcRegionDraw P T ops s K) {id : Nat} {Q : Exit → Act → World → Prop} (hQ : ∀ a' w' s', K s' → St C s' a' w' → Q .normal a' w') :
    (Code.region id ops true).wp P Q a w := by
  refine wp_region_any hm ?_
  obtain ⟨t, h1, ⟨h2, h3⟩, h4⟩ := vcDraw_spec ops.toList 0 [] (s.bump ops.size) rfl rfl h
  simp only [List.reverse_nil, List.nil_append, Nat.zero_add] at h2 h3 h4
  simp only [okTrace, Bool.and_eq_true] at h2
  have hl : Laid P T ops s.nx (s.bump ops.size) t := by
    refine ⟨by simpa using h1, fun k o ho => h4 k o (by simpa using ho), fun k o ho e he hb => ?_, fun i j e e' hij hi hj => ?_, fun d i hi => ids_lt (hs.fr d) i hi, fun id o ho => hs.hp.lt id o ho, fun id t cs ho i hi => ?_, hs.nx, rfl⟩
    · have := edgesOk_spec ops.toList 0 h2.1 k o (by simpa using ho) e he hb
      omega
    · have := okAll_spec t _ 0 h2.2 i j e e' hij hi hj
      rw [Nat.zero_add, Nat.zero_add] at this
      refine ⟨this.1, fun hc => ?_⟩
      obtain ⟨m, hm, hb⟩ := this.2 hc
      exact ancL_spec ops.toList [] (fun i => by simp) (fun k m hk => by simp at hk) j m hm i hb
    · obtain ⟨b, vs, _, _, h5⟩ := hs.hp.obj id _ ho
      exact ids_lt (x := .agg cs) (.one (.agg h5)) i hi
  have hbel : Below w.heap.size w { w with drawn := w.drawn + 1 } := { os := rfl, tape := rfl, output := rfl, size := Nat.le_refl _, block := fun _ _ => rfl }
  have hs' := (hs.bump ops.size).grow hbel
  have hno : ∀ i, (Array.replicate ops.size false).getD i false = false := by
    intro i
    simp only [Array.getD_eq_getD_getElem?, Array.getElem?_replicate]
    split <;> rfl
  have hrun : runE (fun i => (Array.replicate ops.size false).getD i false) t 0 (s.bump ops.size) = s.bump ops.size := by
    rw [show (fun i => (Array.replicate ops.size false).getD i false) = fun _ => false from funext hno, runE_none]
  have hst : St C (runE (fun i => (Array.replicate ops.size false).getD i false) t 0 (s.bump ops.size)) a { w with drawn := w.drawn + 1 } := by
    rw [hrun]
    exact ⟨_, σ, hs'⟩
  have hcl : Closed ops (fun i => (Array.replicate ops.size false).getD i false) := by
    intro k o hk
    exact absurd ((hno k).symm.trans hk) (by simp)
  exact draw_main (C := C) hT hl (fun a' w' hst => hQ a' w' _ h3 hst) ops.size _ (List.range ops.size) a _ (by simp) List.nodup_range (fun i hi _ => List.mem_range.2 hi) (by simp) hcl hst

end
end Go.Proofs.YtijjagkeaehhbaaGreat.Eng
