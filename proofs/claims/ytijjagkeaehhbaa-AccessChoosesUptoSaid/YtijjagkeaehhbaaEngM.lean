/- The engine: one operation as a step that may be told apart from its neighbours: what it reads, what it writes. -/
import Derived.Test.YtijjagkeaehhbaaEngL
set_option linter.unusedSimpArgs false
set_option linter.unusedVariables false
namespace Go.Proofs.Ytijjagkeaehhbaa.Eng
open Go.RowKit (Below)

/-- The object behind a handle. -/
def rdO (hp : Nat → Option AObj) : AV → Option AObj
  | .one (.lf (.ptr id _)) => hp id
  | .one (.lf (.rp id _ _ _)) => hp id
  | .one (.lf (.sl id)) => hp id
  | _ => none

def loadA (i : TI) (x : AV) (ob : Option AObj) (K : AV → Prop) : Prop :=
  match x, ob with
  | .one (.lf (.ptr _ off)), some (.box _ cs) => match ofCells i.agg cs off i.size with | some v => K v | none => False
  | .one (.lf (.rp _ sz idx off)), some (.row _ sz' rows) => ∃ r, rows[idx]? = some r ∧ sz = sz' ∧ (match ofCells i.agg (pvs r) off i.size with | some v => K v | none => False)
  | .one (.lf (.pv (.cp r off))), _ => match ofCells i.agg (pvs r) off i.size with | some v => K v | none => False
  | _, _ => False

def builtinS (T : Tab) (b : Builtin) (ts : List Nat) (args : List AV) (hp : Nat → Option AObj) (K : AV → Prop) : Prop :=
  match b, ts, args with
  | .len, t :: _, [x] => match T t with
    | some i => match x, i.str, i.el, rdO hp x with
      | .one (.lf (.pv (.str b))), true, none, _ => K (.i b.size)
      | .one (.lf (.pv .nils)), false, some _, _ => K (.i 0)
      | .one (.lf (.pv (.vs _ rows))), false, some _, _ => K (.i rows.length)
      | .one (.lf (.sl _)), false, some _, some (.row _ _ rows) => K (.i rows.length)
      | _, _, _, _ => False
    | none => False
  | .max, _, [.one (.lf (.pv (.int k a))), .one (.lf (.pv (.int k' b)))] => match decide (k = k') with | true => K (.pv (.int k (if a < b then b else a))) | false => False
  | .min, _, [.one (.lf (.pv (.int k a))), .one (.lf (.pv (.int k' b)))] => match decide (k = k') with | true => K (.pv (.int k (if b < a then b else a))) | false => False
  | _, _, _ => False

/-- One operation: what it gives and what it writes. nid: the name of what it makes. -/
def stepOp (P : Program) (T : Tab) (o : Oper) (ev : Operand → AV) (hp : Nat → Option AObj) (nid : Nat) (K : AV → Option (Nat × AObj) → Prop) : Prop :=
  match o.op with
  | .move x => K (ev x) none
  | .assign x => K (ev x) none
  | .pick c a b => match ev c with
    | .one (.lf (.pv (.bool t))) => (t = true → K (ev a) none) ∧ (t = false → K (ev b) none)
    | _ => False
  | .binOp op t x y _ => binA P op t x y (ev x) (ev y) fun v => K v none
  | .unOp op _ x => match op, ev x with
    | .not, .one (.lf (.pv (.bool b))) => K (.b !b) none
    | .neg, .one (.lf (.pv (.int k n))) => K (.pv (.int k (k.wrap (0 - n)))) none
    | _, _ => False
  | .nilCheck x => match ev x with
    | .one (.lf (.ptr i off)) => K (.lv (.ptr i off)) none
    | .one (.lf (.rp i z j off)) => K (.lv (.rp i z j off)) none
    | .one (.lf (.pv (.cp r off))) => K (.pv (.cp r off)) none
    | _ => ∃ r, PureOp P o ev r ∧ K r none
  | .extract x k => match ev x with
    | .tup rs => match rs[k]? with | some r => K (.one r) none | none => False
    | _ => False
  | .box t x => match T t, (ev x).cells with
    | some i, some cs => match Nat.beq cs.length i.size with
      | true => K (.lv (.ptr nid 0)) (some (nid, .box t cs))
      | false => False
    | _, _ => False
  | .alloc t => match T t with
    | some i => K (.lv (.ptr nid 0)) (some (nid, .box t (pvs i.zero)))
    | none => False
  | .load t p => match T t with
    | some i => loadA i (ev p) (rdO hp (ev p)) fun v => K v none
    | none => False
  | .store t p x => match T t, (ev x).cells with
    | some i, some xs => match Nat.beq xs.length i.size with
      | true => match ev p, rdO hp (ev p) with
        | .one (.lf (.ptr id off)), some (.box t' cs) => match Nat.ble (off + xs.length) cs.length with
          | true => K .any (some (id, .box t' (splice cs off xs)))
          | false => False
        | _, _ => False
      | false => False
    | _, _ => False
  | .fieldAddr t p f => match T t with
    | some i => match i.fo[f]? with
      | some fo => match ev p with
        | .one (.lf (.ptr id off)) => K (.lv (.ptr id (off + fo.1))) none
        | .one (.lf (.rp id sz idx off)) => K (.lv (.rp id sz idx (off + fo.1))) none
        | .one (.lf (.pv (.cp r off))) => K (.pv (.cp r (off + fo.1))) none
        | _ => False
      | none => False
    | none => False
  | .field t x f => match T t with
    | some i => match i.fo[f]?, ev x with
      | some fo, .one (.agg xs) => match ofCells fo.2.2 xs fo.1 fo.2.1 with | some v => K v none | none => False
      | _, _ => False
    | none => False
  | .indexAddr t x ix => match T t with
    | some i => match i.el with
      | some e => match T e, ev x, ev ix, rdO hp (ev x) with
        | some ie, .one (.lf (.pv (.vs sz rows))), .one (.lf (.pv (.int _ n))), _ => ∃ r, 0 ≤ n ∧ rows[n.toNat]? = some r ∧ sz = ie.size ∧ K (.pv (.cp r 0)) none
        | some ie, .one (.lf (.sl id)), .one (.lf (.pv (.int _ n))), some (.row _ sz rows) => (0 ≤ n ∧ n < rows.length ∧ sz = ie.size) ∧ K (.lv (.rp id sz n.toNat 0)) none
        | _, _, _, _ => False
      | none => False
    | none => False
  | .index t x ix => match T t with
    | some i => match i.str, ev x, ev ix with
      | true, .one (.lf (.pv (.str b))), .one (.lf (.pv (.int _ n))) => ∃ c : UInt8, 0 ≤ n ∧ b[n.toNat]? = some c ∧ K (.pv (.int .u8 c.toNat)) none
      | _, _, _ => False
    | none => False
  | .build t parts => match T t with
    | some i => match i.agg, fillA (fun k => i.fo[k]?.map fun fo => (fo.1, fo.2.1)) (pvs i.zero) (parts.toList.map fun p => (p.1, ev p.2)) with
      | true, some cs => K (.agg cs) none
      | _, _ => False
    | none => ∃ r, PureOp P o ev r ∧ K r none
  | .buildSlice t len parts => match T t with
    | some i => match i.el with
      | some e => match T e with
        | some ie => match Nat.ble (len * ie.size) 16777216, fillA (fun k => some (k * ie.size, ie.size)) (pvs (rep ie.zero len)) (parts.toList.map fun p => (p.1, ev p.2)) with
          | true, some cs => match pures cs with
            | some ps => ∃ own : Bool, match own with
              | true => K (.lv (.sl nid)) (some (nid, .row e ie.size (chunk ie.size len ps)))
              | false => K (.pv (.vs ie.size (chunk ie.size len ps))) none
            | none => False
          | _, _ => False
        | none => False
      | none => False
    | none => False
  | .call c => match c.callee with
    | .builtin b => builtinS T b c.argTypes.toList (c.args.toList.map ev) hp fun v => K v none
    | .value f => match ev f with
      | .one (.lf (.pv (.fn g))) => ∃ r, AFun P g (c.args.toList.map ev) r ∧ (aids (c.args.toList.map ev)).isEmpty = true ∧ K r none
      | _ => False
    | _ => False
  | .convert a b x => match T a, T b, ev x with
    | some _, some j, .one (.lf (.pv (.int _ n))) => match j.knd with | some k => K (.pv (.int k (k.wrap n))) none | none => False
    | some _, some j, .one (.lf (.pv (.str b))) => match j.str with | true => K (.pv (.str b)) none | false => False
    | _, _, _ => False
  | .makeFunc _ _ _ => False
  | .makeSlice _ _ _ => False
  | _ => ∃ r, PureOp P o ev r ∧ K r none

/-- Which objects it looks at. -/
def memIds (o : Op) (ev : Operand → AV) : List Nat :=
  match o with
  | .load _ p => (ev p).ids
  | .store _ p _ => (ev p).ids
  | .indexAddr _ x _ => (ev x).ids
  | .call c => match c.callee with | .builtin _ => aids (c.args.toList.map ev) | _ => []
  | _ => []

def hits : Option Nat → Nat → Bool
  | some d, i => Nat.beq i d
  | none, _ => false
def AS.eff (s : AS) (d : Option Nat) (v : AV) (u : Option (Nat × AObj)) : AS :=
  { s with fr := fun i => bif hits d i then v else s.fr i
           hp := fun j => match u with | some (id, o) => bif Nat.beq j id then some o else s.hp j | none => s.hp j }

section
variable {P : Program} {T : Tab} {o : Oper} {ev ev' : Operand → AV} {hp hp' : Nat → Option AObj} {nid : Nat} {K K' : AV → Option (Nat × AObj) → Prop}

theorem rdO_congr {x : AV} (h : ∀ j ∈ x.ids, hp j = hp' j) : rdO hp x = rdO hp' x := by
  match x with
  | .one (.lf (.ptr id _)) => exact h id (by simp [AV.ids, RV.ids, LV.ids])
  | .one (.lf (.rp id _ _ _)) => exact h id (by simp [AV.ids, RV.ids, LV.ids])
  | .one (.lf (.sl id)) => exact h id (by simp [AV.ids, RV.ids, LV.ids])
  | .one (.lf (.pv _)) | .one (.lf .any) | .one (.lf (.clo _ _)) | .one (.agg _) | .tup _ => rfl

theorem map_ev {l : List Operand} (h : ∀ x ∈ l, ev x = ev' x) : l.map ev = l.map ev' := List.map_congr_left h

theorem builtinS_congr {b : Builtin} {ts : List Nat} {args : List AV} (h : ∀ j ∈ aids args, hp j = hp' j) {K : AV → Prop} : builtinS T b ts args hp K = builtinS T b ts args hp' K := by
  have key : ∀ x, args = [x] → rdO hp x = rdO hp' x := fun x hx => rdO_congr fun j hj => h j (by subst hx; simp [aids, hj])
  unfold builtinS
  split
  · rename_i x; rw [key x rfl]
  all_goals rfl

theorem pureOp_congr {r : AV} (he : ∀ x ∈ o.op.operands, ev x = ev' x) : PureOp P o ev r = PureOp P o ev' r := by
  apply propext
  constructor
  · intro h; exact ⟨fun w S σ n ρ hρ => h.run w S σ n ρ fun x hx => by rw [he x hx]; exact hρ x hx⟩
  · intro h; exact ⟨fun w S σ n ρ hρ => h.run w S σ n ρ fun x hx => by rw [← he x hx]; exact hρ x hx⟩

theorem stepOp_congr (he : ∀ x ∈ o.op.operands, ev x = ev' x) (hh : ∀ j ∈ memIds o.op ev, hp j = hp' j) : stepOp P T o ev hp nid K = stepOp P T o ev' hp' nid K := by
  obtain ⟨dst, op, type, pos, after, guard⟩ := o
  have pairs : ∀ ps : Array (Nat × Operand), (∀ x ∈ ps.map (·.2), ev x = ev' x) → (ps.toList.map fun p => (p.1, ev p.2)) = (ps.toList.map fun p => (p.1, ev' p.2)) := fun ps hp =>
    List.map_congr_left fun p hm => by rw [hp p.2 (Array.mem_map.2 ⟨p, Array.mem_toList_iff.1 hm, rfl⟩)]
  have hpure : ∀ r, PureOp P ⟨dst, op, type, pos, after, guard⟩ ev r = PureOp P ⟨dst, op, type, pos, after, guard⟩ ev' r := fun r => pureOp_congr he
  cases op <;> simp only [Op.operands] at he <;> simp only [memIds] at hh <;> simp only [stepOp, hpure]
  case build t ps => rw [pairs ps fun x hx => he x (by simpa using hx)]
  case buildSlice t n ps => rw [pairs ps fun x hx => he x (by simpa using hx)]
  case call c =>
    have ha : c.args.toList.map ev = c.args.toList.map ev' := map_ev fun x hx => he x (by simp [Call.operands, Array.mem_toList_iff.1 hx])
    cases hc : c.callee with
    | value f => have hf : ev f = ev' f := he f (by simp [Call.operands, hc]); simp only [hf, ha]
    | invoke r m => rfl
    | builtin b => simp only [hc, ha] at hh; simp only [ha, builtinS_congr hh]
  case load t p => rw [rdO_congr hh, he p (by simp)]
  case store t p x => rw [rdO_congr hh, he p (by simp), he x (by simp)]
  case indexAddr t x ix => rw [rdO_congr hh, he x (by simp), he ix (by simp)]
  all_goals (first | rfl | (simp_all; done))

theorem binA_ex {op : BinOp} {ty : Nat} {X Y : Operand} {x y : AV} {K : AV → Prop} (h : binA P op ty X Y x y K) : ∃ v, K v ∧ binA P op ty X Y x y fun v' => v' = v := by
  unfold binA at *
  split at h
  · split at h
    · split at h
      · exact ⟨_, h.2, h.1, rfl⟩
      · exact ⟨_, h.2, h.1, rfl⟩
      · split at h
        · exact ⟨_, h, by simp_all⟩
        · split at h
          · exact ⟨_, h, by simp_all⟩
          · exact h.elim
    · exact h.elim
  · split at h
    · exact ⟨_, h.2, h.1, rfl⟩
    · split at h
      · exact ⟨_, h, by simp_all⟩
      · exact h.elim
  · obtain ⟨r, h1, h2⟩ := h
    exact ⟨_, h2, r, h1, rfl⟩

theorem builtinS_ex {b : Builtin} {ts : List Nat} {args : List AV} {K : AV → Prop} (h : builtinS T b ts args hp K) : ∃ v, K v ∧ builtinS T b ts args hp fun v' => v' = v := by
  unfold builtinS at *
  split at h
  · split at h
    · split at h <;> first | exact h.elim | exact ⟨_, h, by simp_all⟩
    · exact h.elim
  · split at h <;> first | exact h.elim | exact ⟨_, h, by simp_all⟩
  · split at h <;> first | exact h.elim | exact ⟨_, h, by simp_all⟩
  · exact h.elim

theorem loadA_ex {i : TI} {x : AV} {ob : Option AObj} {K : AV → Prop} (h : loadA i x ob K) : ∃ v, K v ∧ loadA i x ob fun v' => v' = v := by
  unfold loadA at *
  split at h
  · split at h <;> first | exact h.elim | exact ⟨_, h, by simp_all⟩
  · obtain ⟨r, h1, h2, h⟩ := h
    split at h
    · exact ⟨_, h, r, h1, h2, by simp_all⟩
    · exact h.elim
  · split at h <;> first | exact h.elim | exact ⟨_, h, by simp_all⟩
  · exact h.elim

theorem stepOp_ex (h : stepOp P T o ev hp nid K) : ∃ v u, K v u ∧ stepOp P T o ev hp nid fun v' u' => v' = v ∧ u' = u := by
  obtain ⟨dst, op, type, pos, after, guard⟩ := o
  cases op <;> simp only [stepOp] at h ⊢
  case move x => exact ⟨_, _, h, rfl, rfl⟩
  case assign x => exact ⟨_, _, h, rfl, rfl⟩
  case pick c x y =>
    split at h
    · rename_i t ht
      cases t with
      | true => exact ⟨_, _, h.1 rfl, fun _ => ⟨rfl, rfl⟩, fun e => by cases e⟩
      | false => exact ⟨_, _, h.2 rfl, (fun e => by cases e), fun _ => ⟨rfl, rfl⟩⟩
    · exact h.elim
  case binOp op t x y yt =>
    obtain ⟨v, h1, h2⟩ := binA_ex h
    exact ⟨v, none, h1, by simpa using h2⟩
  case call c =>
    split at h
    · obtain ⟨v, h1, h2⟩ := builtinS_ex h
      exact ⟨v, none, h1, by simpa using h2⟩
    · split at h
      · obtain ⟨r, h1, h2, h3⟩ := h
        exact ⟨_, _, h3, r, h1, h2, rfl, rfl⟩
      · exact h.elim
    · exact h.elim
  case load t p =>
    split at h
    · obtain ⟨v, h1, h2⟩ := loadA_ex h
      exact ⟨v, none, h1, by simpa using h2⟩
    · exact h.elim
  case indexAddr t x ix =>
    split at h
    · split at h
      · split at h
        · obtain ⟨r, h1, h2, h3, h⟩ := h
          exact ⟨_, _, h, r, h1, h2, h3, rfl, rfl⟩
        · exact ⟨_, _, h.2, h.1, rfl, rfl⟩
        · exact h.elim
      · exact h.elim
    · exact h.elim
  case index t x ix =>
    split at h
    · split at h
      · obtain ⟨c, h1, h2, h⟩ := h
        exact ⟨_, _, h, c, h1, h2, rfl, rfl⟩
      · exact h.elim
    · exact h.elim
  case buildSlice t len parts =>
    split at h
    · split at h
      · split at h
        · split at h
          · split at h
            · obtain ⟨own, h⟩ := h
              cases own with
              | true => exact ⟨_, _, h, true, rfl, rfl⟩
              | false => exact ⟨_, _, h, false, rfl, rfl⟩
            · exact h.elim
          · exact h.elim
        · exact h.elim
      · exact h.elim
    · exact h.elim
  all_goals (repeat (first | exact h.elim | exact ⟨_, _, h, rfl, rfl⟩ | (obtain ⟨r, h1, h2⟩ := h; exact ⟨_, _, h2, r, h1, rfl, rfl⟩) | split at h))
  
theorem binA_mono {op : BinOp} {ty : Nat} {X Y : Operand} {x y : AV} {K K' : AV → Prop} (hm : ∀ v, K v → K' v) (h : binA P op ty X Y x y K) : binA P op ty X Y x y K' := by
  obtain ⟨v, h1, h2⟩ := binA_ex h
  unfold binA at *
  split at h2
  · split at h2
    · split at h2
      · exact ⟨h2.1, h2.2 ▸ hm _ h1⟩
      · exact ⟨h2.1, h2.2 ▸ hm _ h1⟩
      · split at h2
        · subst h2; exact hm _ h1
        · split at h2
          · subst h2; exact hm _ h1
          · exact h2.elim
    · exact h2.elim
  · split at h2
    · exact ⟨h2.1, h2.2 ▸ hm _ h1⟩
    · split at h2
      · subst h2; exact hm _ h1
      · exact h2.elim
  · obtain ⟨r, h3, h4⟩ := h2
    exact ⟨r, h3, h4 ▸ hm _ h1⟩

end
end Go.Proofs.Ytijjagkeaehhbaa.Eng
