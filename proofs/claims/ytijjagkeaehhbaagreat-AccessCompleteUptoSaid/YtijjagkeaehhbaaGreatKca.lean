/- An engine of our own: abstract values for the model's values, and how they are read. Its conditions stand in each statement. And what follows in this text; each statement bears its conditions. -/
import Derived.Laws.AppendOwn
import Derived.Laws.OwnMore
import Derived.Below
import Derived.Orders
import Derived.KernelRfl
import Derived.Laws.Tables
import Derived.Laws.Cells
import Derived.Laws.Slices
/- An engine of our own: abstract values for the model's values, and how they are read. Its conditions stand in each statement. -/
set_option linter.unusedSimpArgs false
set_option linter.unusedVariables false
namespace Go.Proofs.YtijjagkeaehhbaaGreat.Eng
open Go.RowKit (Below)

/-- Pure values: what a value says, read through memory that nobody writes. -/
inductive PV where
  | int (k : IntKind) (n : Int)
  | bool (b : Bool)
  | str (s : ByteArray)
  | nils
  | vs (sz : Nat) (rows : List (List PV))
  | cp (row : List PV) (off : Nat)
  | nilp
  | nilf
  | nilif
  | fn (g : Nat)
  | ifc (t : Nat) (x : PV)
  | ifa (t : Nat) (xs : List PV)
instance : Inhabited PV := ⟨.nilp⟩

/-- Leaves: a pure value, whatever, a pointer into an object, an object's slice, a closure over boxes. -/
inductive LV where
  | pv (p : PV)
  | any
  | ptr (id off : Nat)
  | rp (id sz idx off : Nat)
  | sl (id : Nat)
  | clo (g : Nat) (ids : List Nat)
instance : Inhabited LV := ⟨.any⟩
inductive RV where
  | lf (x : LV)
  | agg (xs : List LV)
instance : Inhabited RV := ⟨.lf .any⟩
inductive AV where
  | one (r : RV)
  | tup (rs : List RV)
instance : Inhabited AV := ⟨.one (.lf .any)⟩
abbrev AV.any : AV := .one (.lf .any)
abbrev AV.pv (p : PV) : AV := .one (.lf (.pv p))
abbrev AV.lv (x : LV) : AV := .one (.lf x)
abbrev AV.agg (xs : List LV) : AV := .one (.agg xs)
abbrev AV.i (n : Int) : AV := .one (.lf (.pv (.int .i64 n)))
abbrev AV.b (x : Bool) : AV := .one (.lf (.pv (.bool x)))

/-- Objects of the call's own (or handed in): a variable; the row behind a slice. -/
inductive AObj where
  | box (t : Nat) (cs : List LV)
  | row (t sz : Nat) (rows : List (List PV))

/-- A pure value in a world; S: the blocks that may be read (nobody writes them). -/
inductive PVR (w : World) (S : Nat → Prop) : PV → Value → Prop where
  | int (k n) : PVR w S (.int k n) (.int k n)
  | bool (b) : PVR w S (.bool b) (.bool b)
  | str (s) : PVR w S (.str s) (.string s)
  | nils : PVR w S .nils (.slice none 0 0)
  | vs (sz rows A cap) (f : Nat → Nat → Value) (hc : rows.length ≤ cap) (hm : cap ≤ 9223372036854775807) (hN : A = none → cap = 0) (hs : ∀ r ∈ rows, r.length = sz)
      (hA : rows ≠ [] → ∃ b o, A = some ⟨b, o, none⟩ ∧ S b ∧ ∀ i j, i < rows.length → j < sz → w.cell? ⟨b, o + (i * sz + j), none⟩ = some (f i j))
      (h1 : ∀ i j, i < rows.length → j < sz → (f i j).oneCell' = true)
      (hp : ∀ i j r p, rows[i]? = some r → r[j]? = some p → PVR w S p (f i j)) : PVR w S (.vs sz rows) (.slice A rows.length cap)
  | cp (row off b o) (f : Nat → Value) (hS : S b) (hc : ∀ j, j < row.length → w.cell? ⟨b, o + j, none⟩ = some (f j)) (h1 : ∀ j, j < row.length → (f j).oneCell' = true)
      (hp : ∀ j p, row[j]? = some p → PVR w S p (f j)) : PVR w S (.cp row off) (.pointer (some ⟨b, o + off, none⟩))
  | nilp : PVR w S .nilp (.pointer none)
  | nilf : PVR w S .nilf .nilFunc
  | nilif : PVR w S .nilif .nilIface
  | fn (g) : PVR w S (.fn g) (.func (.func g) #[] #[])
  | ifc (t p v) (h : PVR w S p v) (h1 : v.oneCell' = true) : PVR w S (.ifc t p) (.iface t v)
  | ifa (t ps) (vs : Array Value) (hn : vs.size = ps.length) (hp : ∀ j p, ps[j]? = some p → PVR w S p (vs.getD j undef)) : PVR w S (.ifa t ps) (.iface t (.agg vs))

theorem cell_same {w w' : World} {b o : Nat} (h : w'.heap[b]? = w.heap[b]?) : w'.cell? ⟨b, o, none⟩ = w.cell? ⟨b, o, none⟩ := World.cell?_of_block (w := w) (a := ⟨b, o, none⟩) h

theorem PVR.mono {w w' : World} {S S' : Nat → Prop} (hk : ∀ b, S b → w'.heap[b]? = w.heap[b]?) (hS : ∀ b, S b → S' b) {p : PV} {v : Value} (h : PVR w S p v) : PVR w' S' p v := by
  induction h with
  | int k n => exact .int k n
  | bool b => exact .bool b
  | str s => exact .str s
  | nils => exact .nils
  | vs sz rows A cap f hc hm hN hs hA h1 hp ih =>
    refine .vs sz rows A cap f hc hm hN hs (fun hne => ?_) h1 (fun i j r p hr hj => ih i j r p hr hj)
    obtain ⟨b, o, hA, hb, hcell⟩ := hA hne
    exact ⟨b, o, hA, hS b hb, fun i j hi hj => (cell_same (hk b hb)).trans (hcell i j hi hj)⟩
  | cp row off b o f hSb hc h1 hp ih => exact .cp row off b o f (hS b hSb) (fun j hj => (cell_same (hk b hSb)).trans (hc j hj)) h1 ih
  | nilp => exact .nilp
  | nilf => exact .nilf
  | nilif => exact .nilif
  | fn g => exact .fn g
  | ifc t p v h h1 ih => exact .ifc t p v ih h1
  | ifa t ps vs hn hp ih => exact .ifa t ps vs hn ih

theorem PVR.one {w : World} {S : Nat → Prop} {p : PV} {v : Value} (h : PVR w S p v) : v.oneCell' = true := by cases h <;> rfl

/-- A leaf; σ: each object's handle (a box's pointer, a row's slice); n: the objects' names lie below it. -/
inductive LVR (w : World) (S : Nat → Prop) (σ : Nat → Value) (n : Nat) : LV → Value → Prop where
  | pv {p v} (h : PVR w S p v) : LVR w S σ n (.pv p) v
  | any (v) (h : v.oneCell' = true) : LVR w S σ n .any v
  | ptr {id off b} (hn : id < n) (h : σ id = .pointer (some ⟨b, 0, none⟩)) : LVR w S σ n (.ptr id off) (.pointer (some ⟨b, off, none⟩))
  | rp {id sz idx off b m c} (hn : id < n) (h : σ id = .slice (some ⟨b, 0, none⟩) m c) : LVR w S σ n (.rp id sz idx off) (.pointer (some ⟨b, idx * sz + off, none⟩))
  | sl {id} (hn : id < n) (h1 : (σ id).oneCell' = true) : LVR w S σ n (.sl id) (σ id)
  | clo {g ids} (hn : ∀ i ∈ ids, i < n ∧ ∃ b, σ i = .pointer (some ⟨b, 0, none⟩)) : LVR w S σ n (.clo g ids) (.func (.func g) #[] (ids.map σ).toArray)

theorem LVR.one {w : World} {S : Nat → Prop} {σ : Nat → Value} {n : Nat} {x : LV} {v : Value} (h : LVR w S σ n x v) : v.oneCell' = true := by
  cases h with
  | pv h => exact h.one
  | any v h => exact h
  | sl hn h1 => exact h1
  | _ => rfl

theorem LVR.mono {w w' : World} {S S' : Nat → Prop} {σ σ' : Nat → Value} {n n' : Nat} (hk : ∀ b, S b → w'.heap[b]? = w.heap[b]?) (hS : ∀ b, S b → S' b) (hσ : ∀ i, i < n → σ' i = σ i) (hn : n ≤ n')
    {x : LV} {v : Value} (h : LVR w S σ n x v) : LVR w' S' σ' n' x v := by
  cases h with
  | pv h => exact .pv (h.mono hk hS)
  | any v h => exact .any v h
  | ptr hi h => exact .ptr (Nat.lt_of_lt_of_le hi hn) ((hσ _ hi).trans h)
  | rp hi h => exact .rp (Nat.lt_of_lt_of_le hi hn) ((hσ _ hi).trans h)
  | @sl id hi h1 => rw [← hσ id hi]; exact .sl (Nat.lt_of_lt_of_le hi hn) (by rw [hσ id hi]; exact h1)
  | @clo g ids hi =>
    have : ids.map σ = ids.map σ' := List.map_congr_left fun i hm => (hσ i (hi i hm).1).symm
    rw [this]
    exact .clo fun i hm => ⟨Nat.lt_of_lt_of_le (hi i hm).1 hn, let ⟨b, hb⟩ := (hi i hm).2; ⟨b, (hσ i (hi i hm).1).trans hb⟩⟩

/-- A list of leaves against an array of cells. -/
def LsR (w : World) (S : Nat → Prop) (σ : Nat → Value) (n : Nat) (xs : List LV) (vs : Array Value) : Prop :=
  vs.size = xs.length ∧ ∀ (i : Nat) (x : LV), xs[i]? = some x → ∃ v, vs[i]? = some v ∧ LVR w S σ n x v
theorem LsR.mono {w w' : World} {S S' : Nat → Prop} {σ σ' : Nat → Value} {n n' : Nat} (hk : ∀ b, S b → w'.heap[b]? = w.heap[b]?) (hS : ∀ b, S b → S' b) (hσ : ∀ i, i < n → σ' i = σ i) (hn : n ≤ n')
    {xs : List LV} {vs : Array Value} (h : LsR w S σ n xs vs) : LsR w' S' σ' n' xs vs :=
  ⟨h.1, fun i x hx => let ⟨v, hv, hr⟩ := h.2 i x hx; ⟨v, hv, hr.mono hk hS hσ hn⟩⟩

inductive RVR (w : World) (S : Nat → Prop) (σ : Nat → Value) (n : Nat) : RV → Value → Prop where
  | any (v) : RVR w S σ n (.lf .any) v
  | lf {x v} (h : LVR w S σ n x v) : RVR w S σ n (.lf x) v
  | agg {xs vs} (h : LsR w S σ n xs vs) : RVR w S σ n (.agg xs) (.agg vs)
inductive AVR (w : World) (S : Nat → Prop) (σ : Nat → Value) (n : Nat) : AV → Value → Prop where
  | one {r v} (h : RVR w S σ n r v) : AVR w S σ n (.one r) v
  | tup {rs} {vs : Array Value} (hn : vs.size = rs.length) (h : ∀ (i : Nat) (r : RV), rs[i]? = some r → ∃ v, vs[i]? = some v ∧ RVR w S σ n r v) : AVR w S σ n (.tup rs) (.tuple vs)

theorem RVR.mono {w w' : World} {S S' : Nat → Prop} {σ σ' : Nat → Value} {n n' : Nat} (hk : ∀ b, S b → w'.heap[b]? = w.heap[b]?) (hS : ∀ b, S b → S' b) (hσ : ∀ i, i < n → σ' i = σ i) (hn : n ≤ n')
    {x : RV} {v : Value} (h : RVR w S σ n x v) : RVR w' S' σ' n' x v := by
  cases h with
  | any v => exact .any v
  | lf h => exact .lf (h.mono hk hS hσ hn)
  | agg h => exact .agg (h.mono hk hS hσ hn)
theorem AVR.mono {w w' : World} {S S' : Nat → Prop} {σ σ' : Nat → Value} {n n' : Nat} (hk : ∀ b, S b → w'.heap[b]? = w.heap[b]?) (hS : ∀ b, S b → S' b) (hσ : ∀ i, i < n → σ' i = σ i) (hn : n ≤ n')
    {x : AV} {v : Value} (h : AVR w S σ n x v) : AVR w' S' σ' n' x v := by
  cases h with
  | one h => exact .one (h.mono hk hS hσ hn)
  | tup hz h => exact .tup hz fun i r hr => let ⟨v, hv, hh⟩ := h i r hr; ⟨v, hv, hh.mono hk hS hσ hn⟩

/-- The block behind a handle. -/
def blk : Value → Option Nat
  | .pointer (some a) => some a.block
  | .slice (some a) _ _ => some a.block
  | _ => none

/-- The rows' cells, one after the other. -/
def flat (rows : List (List PV)) : List PV := rows.flatten

def ObjR (w : World) (S : Nat → Prop) (σ : Nat → Value) (n : Nat) (id : Nat) : AObj → Prop
  | .box t cs => ∃ b vs, σ id = .pointer (some ⟨b, 0, none⟩) ∧ w.heap[b]? = some (.cells vs t (0, 0)) ∧ LsR w S σ n cs vs
  | .row t sz rows => (∀ r ∈ rows, r.length = sz) ∧ ∃ xs, w.ownsRow 0 t sz (σ id) rows.length xs ∧ (∀ v ∈ xs, v.oneCell' = true) ∧
      ∀ i j r p, rows[i]? = some r → r[j]? = some p → ∃ v, xs[i * sz + j]? = some v ∧ PVR w S p v

structure HR (B : Nat → Prop) (w : World) (S : Nat → Prop) (σ : Nat → Value) (n : Nat) (hp : Nat → Option AObj) : Prop where
  lt : ∀ id o, hp id = some o → id < n
  obj : ∀ id o, hp id = some o → ObjR w S σ n id o
  notS : ∀ id o b, hp id = some o → blk (σ id) = some b → ¬ S b
  own : ∀ id o b, hp id = some o → blk (σ id) = some b → B b
  inj : ∀ id id' o o' b, hp id = some o → hp id' = some o' → blk (σ id) = some b → blk (σ id') = some b → id = id'

/-- The abstract state: slots, objects, the next name, how many slots; n0: the names that were there at the call's begin; c0: which of them may get another handle. -/
structure AS where
  fr : Nat → AV
  hp : Nat → Option AObj
  nx : Nat
  n : Nat
  n0 : Nat
  c0 : Nat → Bool

/-- What of the old world stands: all blocks but those that the call may write. -/
structure Keeps (w0 w : World) (B0 : Nat → Prop) : Prop where
  os : w.os = w0.os
  tape : w.tape = w0.tape
  output : w.output = w0.output
  size : w0.heap.size ≤ w.heap.size
  block : ∀ k, k < w0.heap.size → ¬ B0 k → w.heap[k]? = w0.heap[k]?

/-- The call's begin: the world, the readable blocks, the old blocks that may be written, the handles. -/
structure Ctx where
  w0 : World
  S0 : Nat → Prop
  B0 : Nat → Prop
  σ0 : Nat → Value
structure SR (C : Ctx) (s : AS) (S : Nat → Prop) (σ : Nat → Value) (a : Act) (w : World) : Prop where
  size : a.tmps.size = s.n
  defers : a.defers = []
  fr : ∀ i, AVR w S σ s.nx (s.fr i) (a.tmps.getD i undef)
  hp : HR (fun b => C.B0 b ∨ C.w0.heap.size ≤ b) w S σ s.nx s.hp
  lt : ∀ b, S b → b < w.heap.size
  le : ∀ b, C.S0 b → S b
  keep : Keeps C.w0 w C.B0
  nx : s.n0 ≤ s.nx
  hs : ∀ id, id < s.n0 → s.c0 id = false → σ id = C.σ0 id
  up : ∀ b, S b → C.S0 b ∨ C.w0.heap.size ≤ b ∨ C.B0 b
def St (C : Ctx) (s : AS) (a : Act) (w : World) : Prop := ∃ S σ, SR C s S σ a w

end Go.Proofs.YtijjagkeaehhbaaGreat.Eng

/- The engine's operations on abstract states, as conditions (vc). -/
set_option linter.unusedSimpArgs false
set_option linter.unusedVariables false
namespace Go.Proofs.YtijjagkeaehhbaaGreat.Eng
open Go.RowKit (Below)

/-- What the translation's table says of a type. fo: a struct's fields (offset, cells, is it an aggregate). el: a slice's elements. -/
structure TI where
  agg : Bool
  size : Nat
  bytes : Nat
  zero : List PV
  fo : List (Nat × Nat × Bool)
  el : Option Nat
  str : Bool
  knd : Option IntKind

def eqPV : PV → PV → Bool
  | .int k n, .int k' n' => k == k' && n == n'
  | .bool a, .bool b => a == b
  | .str a, .str b => a.toList == b.toList && a.size == 0 && b.size == 0
  | .nils, .nils => true
  | .nilp, .nilp => true
  | .nilf, .nilf => true
  | .nilif, .nilif => true
  | _, _ => false
def cst : Value → Option PV
  | .int k n => some (.int k n)
  | .bool b => some (.bool b)
  | .string s => some (.str s)
  | .slice none 0 0 => some .nils
  | .pointer none => some .nilp
  | .nilFunc => some .nilf
  | .nilIface => some .nilif
  | .func (.func g) a b => if a.size = 0 ∧ b.size = 0 then some (.fn g) else none
  | _ => none
def eqPVs : List PV → List PV → Bool
  | [], [] => true
  | a :: x, b :: y => eqPV a b && eqPVs x y
  | _, _ => false
def csts : List Value → Option (List PV)
  | [] => some []
  | v :: r => match cst v, csts r with | some p, some q => some (p :: q) | _, _ => none
def descAgg : TypeDesc → Bool | .struct _ | .array _ _ => true | _ => false
def zagg (b : Bool) : Value → Bool
  | .agg _ => b
  | .tuple _ => false
  | _ => !b
def tiOk (P : Program) (t : Nat) (i : TI) : Bool :=
  match P.info? t, P.underlying t with
  | some j, some d =>
    j.size == i.size && j.bytes == i.bytes && descAgg d == i.agg && decide (0 < i.size) &&
    (match j.zero with | some z => (z.cells.size == i.size) && (match csts z.cells.toList with | some l => eqPVs l i.zero | none => false) && zagg i.agg z | none => false) &&
    (match d with
      | .struct fs => i.el == none && !i.str && i.knd == none && (fs.toList.length == i.fo.length) && ((fs.toList.zip i.fo).all fun (f, o) => f.offset == o.1 && (match P.info? f.type, P.underlying f.type with | some q, some e => q.size == o.2.1 && descAgg e == o.2.2 && decide (0 < q.size) | _, _ => false))
      | .slice e => i.el == some e && i.fo.length == 0 && !i.str && i.knd == none
      | .string => i.el == none && i.fo.length == 0 && i.str && i.knd == none
      | .int k => i.el == none && i.fo.length == 0 && !i.str && i.knd == some k
      | .array _ _ => false
      | _ => i.el == none && i.fo.length == 0 && !i.str && i.knd == none)
  | _, _ => false
abbrev Tab := Nat → Option TI
def TOK (P : Program) (T : Tab) : Prop := ∀ t i, T t = some i → tiOk P t i = true

def LV.refs (id : Nat) : LV → Bool
  | .ptr i _ => Nat.beq i id
  | .rp i _ _ _ => Nat.beq i id
  | .sl i => Nat.beq i id
  | .clo _ ids => ids.contains id
  | _ => false
def LV.poison (id : Nat) (x : LV) : LV := bif x.refs id then .any else x
def anyRefs (id : Nat) : List LV → Bool
  | [] => false
  | x :: r => x.refs id || anyRefs id r
def RV.poison (id : Nat) : RV → RV
  | .lf x => .lf (x.poison id)
  | .agg xs => bif anyRefs id xs then .lf .any else .agg xs
def AV.poison (id : Nat) : AV → AV
  | .one r => .one (r.poison id)
  | .tup rs => .tup (rs.map (RV.poison id))
def AObj.poison (id : Nat) : AObj → AObj
  | .box t cs => .box t (cs.map (LV.poison id))
  | o => o

def AS.put (s : AS) (d : Option Nat) (v : AV) (K : AS → Prop) : Prop :=
  match d with
  | none => K s
  | some d => match Nat.blt d s.n with
    | true => K { s with fr := fun i => bif Nat.beq i d then v else s.fr i }
    | false => False
def AS.setO (s : AS) (id : Nat) (o : AObj) : AS := { s with hp := fun j => bif Nat.beq j id then some o else s.hp j }
def AS.new (s : AS) (o : AObj) : AS := { s with hp := fun j => bif Nat.beq j s.nx then some o else s.hp j, nx := s.nx + 1 }
def AS.poison (s : AS) (id : Nat) : AS := { s with fr := fun i => (s.fr i).poison id, hp := fun j => (s.hp j).map (AObj.poison id) }

def AS.ev (s : AS) : Operand → AV
  | .tmp t => s.fr t
  | .const v => match cst v with | some p => .pv p | none => .any
  | .func f => .pv (.fn f)
  | .global _ => .any

def pvs : List PV → List LV
  | [] => []
  | p :: r => .pv p :: pvs r
def pures : List LV → Option (List PV)
  | [] => some []
  | .pv p :: r => match pures r with | some q => some (p :: q) | none => none
  | _ :: _ => none
/-- A value's cells. -/
def AV.cells : AV → Option (List LV)
  | .one (.lf .any) => none
  | .one (.lf x) => some [x]
  | .one (.agg xs) => some xs
  | .tup _ => none
/-- Cells as a value of a type. -/
def ofCells (agg : Bool) (cs : List LV) (off n : Nat) : Option AV :=
  match agg with
  | true => match Nat.ble (off + n) cs.length with | true => some (.agg ((cs.drop off).take n)) | false => none
  | false => match cs[off]? with | some x => some (.lv x) | none => none
def splice (cs : List LV) (off : Nat) (xs : List LV) : List LV := cs.take off ++ (xs ++ cs.drop (off + xs.length))
def splicePV (cs : List PV) (off : Nat) (xs : List PV) : List PV := cs.take off ++ (xs ++ cs.drop (off + xs.length))

def cmpA (op : BinOp) (x y : Int) : Option Bool :=
  match op with
  | .eql => some (x == y) | .neq => some (x != y) | .lss => some (decide (x < y)) | .leq => some (decide (x ≤ y)) | .gtr => some (decide (x > y)) | .geq => some (decide (x ≥ y))
  | _ => none
def arithA (op : BinOp) (k : IntKind) (x y : Int) : Option Int :=
  match op with
  | .add => some (k.wrap (x + y)) | .sub => some (k.wrap (x - y)) | .mul => some (k.wrap (x * y))
  | _ => none
def strA (op : BinOp) (x y : ByteArray) : Option Bool :=
  match op with
  | .eql => some (x.toList == y.toList) | .neq => some (!(x.toList == y.toList)) | .lss => some (Op.bytesLess x.toList y.toList)
  | .leq => some (Op.bytesLess x.toList y.toList || x.toList == y.toList) | .gtr => some (!(Op.bytesLess x.toList y.toList || x.toList == y.toList)) | .geq => some (!(Op.bytesLess x.toList y.toList))
  | _ => none
/-- What '==' and '!=' give at values that are neither two numbers nor two strings. -/
structure EqV (P : Program) (op : BinOp) (t : Nat) (X Y : Operand) (x y : AV) (r : Bool) : Prop where
  run : ∀ (w : World) (S : Nat → Prop) (σ : Nat → Value) (n : Nat) (u v : Value), AVR w S σ n x u → AVR w S σ n y v → (eqGuard op t X Y u v).run P w = .ok () w ∧ (binOp op t u v).run P w = .ok (.bool r) w
def binA (P : Program) (op : BinOp) (ty : Nat) (X Y : Operand) (x y : AV) (K : AV → Prop) : Prop :=
  match x, y with
  | .one (.lf (.pv (.int k a))), .one (.lf (.pv (.int k' b))) =>
    match decide (k = k') with
    | true => match op with
      | .quo => b ≠ 0 ∧ K (.pv (.int k (k.wrap (a.tdiv b))))
      | .rem => b ≠ 0 ∧ K (.pv (.int k (a.tmod b)))
      | op => match cmpA op a b with
        | some r => K (.pv (.bool r))
        | none => match arithA op k a b with | some r => K (.pv (.int k r)) | none => False
    | false => False
  | .one (.lf (.pv (.str a))), .one (.lf (.pv (.str b))) =>
    match op with
    | .add => ((a.size + b.size : Nat) : Int) ≤ 9223372036854775807 ∧ K (.pv (.str (a ++ b)))
    | op => match strA op a b with | some r => K (.pv (.bool r)) | none => False
  | x, y => ∃ r, EqV P op ty X Y x y r ∧ K (.b r)

/-- The model enters the function's body. -/
def Ent (P : Program) (g : Nat) : Prop := ∀ (args : Array Value) (w : World), (callFunc g args).run P w = .ok (.enter g args) w
/-- A call: what holds of the state behind it. -/
structure CallR (P : Program) (g : Nat) (args : List AV) (s : AS) (R : AV → AS → Prop) : Prop where
  ent : Ent P g
  run : ∀ (C : Ctx) S σ a w, SR C s S σ a w → ∀ vs : Array Value, vs.size = args.length → (∀ (i : Nat) (x : AV), args[i]? = some x → ∃ v, vs[i]? = some v ∧ AVR w S σ s.nx x v) →
    Calls P g vs w fun e w' => ∃ v r s' S' σ', R r s' ∧ e = .returned v ∧ AVR w' S' σ' s'.nx r v ∧ SR C s' S' σ' a w'

def clos (ids : List Nat) : List AV := ids.map fun i => .lv (.ptr i 0)
def ids? : List AV → Option (List Nat)
  | [] => some []
  | .one (.lf (.ptr i 0)) :: r => match ids? r with | some q => some (i :: q) | none => none
  | _ :: _ => none

def builtinA (T : Tab) (b : Builtin) (ts : List Nat) (args : List AV) (s : AS) (K : AV → AS → Prop) : Prop :=
  match b, ts, args with
  | .len, t :: _, [x] => match T t with
    | some i => match x, i.str, i.el with
      | .one (.lf (.pv (.str b))), true, none => K (.i b.size) s
      | .one (.lf (.pv .nils)), false, some _ => K (.i 0) s
      | .one (.lf (.pv (.vs _ rows))), false, some _ => K (.i rows.length) s
      | .one (.lf (.sl id)), false, some _ => match s.hp id with | some (.row _ _ rows) => K (.i rows.length) s | _ => False
      | _, _, _ => False
    | none => False
  | .append, [t, t'], [x, y] => match decide (t = t'), T t with
    | true, some i => match i.el with
      | some e => match T e with
        | some ie =>
          match x with
          | .one (.lf (.sl id)) => match s.hp id with
            | some (.row te sz rows) => match Nat.beq te e, Nat.beq sz ie.size, (Nat.ble s.n0 id || s.c0 id) with
              | true, true, true => match y with
                | .one (.lf (.pv (.vs sz' ys))) => (sz' = sz ∧ (rows.length + ys.length) * ie.bytes ≤ 140737488355328 ∧ (rows.length + ys.length) ≤ 9223372036854775807) ∧ K (.lv (.sl id)) ((s.poison id).setO id (.row te sz (rows ++ ys)))
                | .one (.lf (.pv .nils)) => K (.lv (.sl id)) ((s.poison id).setO id (.row te sz rows))
                | .one (.lf (.sl id')) => match s.hp id' with
                  | some (.row te' sz' ys) => (Nat.beq id' id = false ∧ te' = te ∧ sz' = sz ∧ (rows.length + ys.length) * ie.bytes ≤ 140737488355328 ∧ (rows.length + ys.length) ≤ 9223372036854775807) ∧ K (.lv (.sl id)) ((s.poison id).setO id (.row te sz (rows ++ ys)))
                  | _ => False
                | _ => False
              | _, _, _ => False
            | _ => False
          | _ => False
        | none => False
      | none => False
    | _, _ => False
  | .max, _, [.one (.lf (.pv (.int k a))), .one (.lf (.pv (.int k' b)))] => match decide (k = k') with | true => K (.pv (.int k (if a < b then b else a))) s | false => False
  | .min, _, [.one (.lf (.pv (.int k a))), .one (.lf (.pv (.int k' b)))] => match decide (k = k') with | true => K (.pv (.int k (if b < a then b else a))) s | false => False
  | _, _, _ => False

/-- Parts laid into cells. -/
def fillA (place : Nat → Option (Nat × Nat)) (cs : List LV) : List (Nat × AV) → Option (List LV)
  | [] => some cs
  | (i, v) :: r => match place i, v.cells with
    | some (off, size), some xs => match Nat.beq xs.length size, Nat.ble (off + xs.length) cs.length with
      | true, true => fillA place (splice cs off xs) r
      | _, _ => none
    | _, _ => none
def chunk (sz : Nat) : Nat → List PV → List (List PV)
  | 0, _ => []
  | n + 1, l => l.take sz :: chunk sz n (l.drop sz)
def rep (l : List PV) : Nat → List PV
  | 0 => []
  | n + 1 => l ++ rep l n

/-- An operation that only reads: what it gives. -/
structure PureOp (P : Program) (o : Oper) (ev : Operand → AV) (r : AV) : Prop where
  run : ∀ (w : World) (S : Nat → Prop) (σ : Nat → Value) (n : Nat) (ρ : Operand → Value), (∀ x ∈ o.op.operands, AVR w S σ n (ev x) (ρ x)) → ∃ v, (execOp ρ o).run P w = .ok (.value v) w ∧ AVR w S σ n r v
/-- A method's call: which function, which receiver. -/
structure MethR (P : Program) (m : String) (x : AV) (f : Nat) (y : AV) : Prop where
  run : ∀ (w : World) (S : Nat → Prop) (σ : Nat → Value) (n : Nat) (v : Value), AVR w S σ n x v → ∃ u, AVR w S σ n y u ∧ ∀ args : Array Value, (invoke (.fn (.method m) #[]) (#[v] ++ args)).run P w = (callFunc f (#[u] ++ args)).run P w

/-- How a call is told: by what the function does, or as an operation of the model's own. -/
inductive Way where
  | call
  | pure

def vcOp (P : Program) (T : Tab) (o : Oper) (s : AS) (K : AS → Prop) : Prop :=
  match o.op with
  | .move x => s.put o.dst (s.ev x) K
  | .assign x => s.put o.dst (s.ev x) K
  | .pick c a b => match s.ev c with
    | .one (.lf (.pv (.bool t))) => (t = true → s.put o.dst (s.ev a) K) ∧ (t = false → s.put o.dst (s.ev b) K)
    | _ => False
  | .binOp op t x y _ => binA P op t x y (s.ev x) (s.ev y) fun v => s.put o.dst v K
  | .unOp op _ x => match op, s.ev x with
    | .not, .one (.lf (.pv (.bool b))) => s.put o.dst (.b !b) K
    | .neg, .one (.lf (.pv (.int k n))) => s.put o.dst (.pv (.int k (k.wrap (0 - n)))) K
    | _, _ => False
  | .nilCheck x => match s.ev x with
    | .one (.lf (.ptr i off)) => s.put o.dst (.lv (.ptr i off)) K
    | .one (.lf (.rp i z j off)) => s.put o.dst (.lv (.rp i z j off)) K
    | .one (.lf (.pv (.cp r off))) => s.put o.dst (.pv (.cp r off)) K
    | _ => ∃ r, PureOp P o s.ev r ∧ s.put o.dst r K
  | .extract x k => match s.ev x with
    | .tup rs => match rs[k]? with | some r => s.put o.dst (.one r) K | none => False
    | _ => False
  | .box t x => match T t, (s.ev x).cells with
    | some i, some cs => match Nat.beq cs.length i.size with
      | true => (s.new (.box t cs)).put o.dst (.lv (.ptr s.nx 0)) K
      | false => False
    | none, some cs => (s.new (.box t cs)).put o.dst (.lv (.ptr s.nx 0)) K
    | _, none => False
  | .alloc t => match T t with
    | some i => (s.new (.box t (pvs i.zero))).put o.dst (.lv (.ptr s.nx 0)) K
    | none => False
  | .load t p => match T t with
    | some i => match s.ev p with
      | .one (.lf (.ptr id off)) => match s.hp id with
        | some (.box _ cs) => match ofCells i.agg cs off i.size with | some v => s.put o.dst v K | none => False
        | _ => False
      | .one (.lf (.rp id sz idx off)) => match s.hp id with
        | some (.row _ sz' rows) => ∃ r, rows[idx]? = some r ∧ sz = sz' ∧ (match ofCells i.agg (pvs r) off i.size with | some v => s.put o.dst v K | none => False)
        | _ => False
      | .one (.lf (.pv (.cp r off))) => match ofCells i.agg (pvs r) off i.size with | some v => s.put o.dst v K | none => False
      | _ => False
    | none => False
  | .store t p x => match T t, (s.ev x).cells with
    | some i, some xs => match Nat.beq xs.length i.size with
      | true => match s.ev p with
        | .one (.lf (.ptr id off)) => match s.hp id with
          | some (.box t' cs) => match Nat.ble (off + xs.length) cs.length with
            | true => (s.setO id (.box t' (splice cs off xs))).put o.dst .any K
            | false => False
          | _ => False
        | .one (.lf (.rp id sz idx off)) => match s.hp id, pures xs with
          | some (.row t' sz' rows), some ps => ∃ r, rows[idx]? = some r ∧ sz = sz' ∧ off + ps.length ≤ r.length ∧ (s.setO id (.row t' sz' (rows.set idx (splicePV r off ps)))).put o.dst .any K
          | _, _ => False
        | _ => False
      | false => False
    | _, _ => False
  | .fieldAddr t p f => match T t with
    | some i => match i.fo[f]? with
      | some fo => match s.ev p with
        | .one (.lf (.ptr id off)) => s.put o.dst (.lv (.ptr id (off + fo.1))) K
        | .one (.lf (.rp id sz idx off)) => s.put o.dst (.lv (.rp id sz idx (off + fo.1))) K
        | .one (.lf (.pv (.cp r off))) => s.put o.dst (.pv (.cp r (off + fo.1))) K
        | _ => False
      | none => False
    | none => False
  | .field t x f => match T t with
    | some i => match i.fo[f]?, s.ev x with
      | some fo, .one (.agg xs) => match ofCells fo.2.2 xs fo.1 fo.2.1 with | some v => s.put o.dst v K | none => False
      | _, _ => False
    | none => False
  | .indexAddr t x ix => match T t with
    | some i => match i.el with
      | some e => match T e, s.ev x, s.ev ix with
        | some ie, .one (.lf (.pv (.vs sz rows))), .one (.lf (.pv (.int _ n))) => ∃ r, 0 ≤ n ∧ rows[n.toNat]? = some r ∧ sz = ie.size ∧ s.put o.dst (.pv (.cp r 0)) K
        | some ie, .one (.lf (.sl id)), .one (.lf (.pv (.int _ n))) => match s.hp id with
          | some (.row _ sz rows) => (0 ≤ n ∧ n < rows.length ∧ sz = ie.size) ∧ s.put o.dst (.lv (.rp id sz n.toNat 0)) K
          | _ => False
        | _, _, _ => False
      | none => False
    | none => False
  | .index t x ix => match T t with
    | some i => match i.str, s.ev x, s.ev ix with
      | true, .one (.lf (.pv (.str b))), .one (.lf (.pv (.int _ n))) => ∃ c : UInt8, 0 ≤ n ∧ b[n.toNat]? = some c ∧ s.put o.dst (.pv (.int .u8 c.toNat)) K
      | _, _, _ => False
    | none => False
  | .build t parts => match T t with
    | some i => match i.agg, fillA (fun k => i.fo[k]?.map fun fo => (fo.1, fo.2.1)) (pvs i.zero) (parts.toList.map fun p => (p.1, s.ev p.2)) with
      | true, some cs => s.put o.dst (.agg cs) K
      | _, _ => False
    | none => ∃ r, PureOp P o s.ev r ∧ s.put o.dst r K
  | .buildSlice t len parts => match T t with
    | some i => match i.el with
      | some e => match T e with
        | some ie => match Nat.ble (len * ie.size) 16777216, fillA (fun k => some (k * ie.size, ie.size)) (pvs (rep ie.zero len)) (parts.toList.map fun p => (p.1, s.ev p.2)) with
          | true, some cs => match pures cs with
            | some ps => ∃ own : Bool, match own with
              | true => (s.new (.row e ie.size (chunk ie.size len ps))).put o.dst (.lv (.sl s.nx)) K
              | false => s.put o.dst (.pv (.vs ie.size (chunk ie.size len ps))) K
            | none => False
          | _, _ => False
        | none => False
      | none => False
    | none => False
  | .makeFunc (.func g) first caps => match first.toList, ids? (caps.toList.map s.ev) with
    | [], some ids => s.put o.dst (.lv (.clo g ids)) K
    | _, _ => False
  | .call c => match c.callee with
    | .builtin b => builtinA T b c.argTypes.toList (c.args.toList.map s.ev) s fun v s' => s'.put o.dst v K
    | .value f => match s.ev f with
      | .one (.lf (.pv (.fn g))) => ∃ how : Way, match how with
        | .call => CallR P g (c.args.toList.map s.ev) s fun v s' => s'.put o.dst v K
        | .pure => ∃ r, PureOp P o s.ev r ∧ s.put o.dst r K
      | .one (.lf (.clo g ids)) => CallR P g (c.args.toList.map s.ev ++ clos ids) s fun v s' => s'.put o.dst v K
      | _ => False
    | .invoke r m => ∃ f y, MethR P m (s.ev r) f y ∧ CallR P f (y :: c.args.toList.map s.ev) s fun v s' => s'.put o.dst v K
  | .convert a b x => match T a, T b, s.ev x with
    | some _, some j, .one (.lf (.pv (.int _ n))) => match j.knd with | some k => s.put o.dst (.pv (.int k (k.wrap n))) K | none => False
    | some _, some j, .one (.lf (.pv (.str b))) => match j.str with | true => s.put o.dst (.pv (.str b)) K | false => False
    | _, _, _ => False
  | .makeSlice t l c => match T t with
    | some i => match i.el with
      | some e => match T e, s.ev l, s.ev c with
        | some ie, .one (.lf (.pv (.int _ a))), .one (.lf (.pv (.int _ b))) => (a = 0 ∧ 0 ≤ b ∧ ie.bytes * b.toNat ≤ 281474976710656 ∧ b.toNat ≤ 9223372036854775807) ∧ (s.new (.row e ie.size [])).put o.dst (.lv (.sl s.nx)) K
        | _, _, _ => False
      | none => False
    | none => False
  | _ => ∃ r, PureOp P o s.ev r ∧ s.put o.dst r K

end Go.Proofs.YtijjagkeaehhbaaGreat.Eng

/- The engine's operations are sound: the simple ones. -/
set_option linter.unusedSimpArgs false
set_option linter.unusedVariables false
namespace Go.Proofs.YtijjagkeaehhbaaGreat.Eng
open Go.RowKit (Below)

theorem beq_ne {i d : Nat} (h : i ≠ d) : Nat.beq i d = false := by
  cases hb : Nat.beq i d
  · rfl
  · exact absurd (Nat.eq_of_beq_eq_true hb) h
theorem wp_value {P : Program} {o : Oper} {a : Act} {w w' : World} {v : Value} {next : Act → World → Prop} {Q : Exit → Act → World → Prop}
    (hr : (execOp a.eval o).run P w = .ok (.value v) w') (h : next (a.put o.dst v) w') : o.wp P a w next Q := by
  unfold Oper.wp; rw [hr]; exact h
theorem wp_skip' {P : Program} {o : Oper} {a : Act} {w w' : World} {next : Act → World → Prop} {Q : Exit → Act → World → Prop}
    (hr : (execOp a.eval o).run P w = .ok .skip w') (h : next (a.put o.dst undef) w') : o.wp P a w next Q := by
  unfold Oper.wp; rw [hr]; exact h

theorem getD_put {a : Act} {d : Nat} {v : Value} (hd : d < a.tmps.size) (i : Nat) : (a.put (some d) v).tmps.getD i undef = if i = d then v else a.tmps.getD i undef := by
  by_cases h : i = d
  · subst h; simp [Act.put, hd]
  · have h' : ¬ d = i := fun e => h e.symm
    simp only [Act.put, h, if_false, Array.getD_eq_getD_getElem?, Array.getElem?_setIfInBounds_ne h']

theorem SR.put {C : Ctx} {s : AS} {S σ a w} (hr : SR C s S σ a w) {d : Option Nat} {v : AV} {cv : Value} (hv : AVR w S σ s.nx v cv) {K : AS → Prop} (h : s.put d v K) :
    ∃ s', K s' ∧ SR C s' S σ (a.put d cv) w := by
  cases d with
  | none => exact ⟨s, h, hr⟩
  | some d =>
    unfold AS.put at h
    dsimp only at h
    split at h
    · rename_i hb
      have hlt : d < a.tmps.size := by rw [hr.size]; exact Nat.le_of_ble_eq_true hb
      refine ⟨_, h, ?_⟩
      constructor
      · simp [Act.put, hr.size]
      · exact hr.defers
      · intro i
        rw [getD_put hlt]
        by_cases e : i = d
        · subst e; simpa using hv
        · have : Nat.beq i d = false := beq_ne e
          simp only [this, cond_false, e, if_false]
          exact hr.fr i
      · exact hr.hp
      · exact hr.lt
      · exact hr.le
      · exact hr.keep
      · exact hr.nx
      · exact hr.hs
      · exact hr.up
    · exact h.elim

theorem cst_sound {w S v p} (h : cst v = some p) : PVR w S p v := by
  unfold cst at h
  split at h <;> first | (cases h; constructor; done) | skip
  · split at h
    · rename_i g x y hh
      cases h
      obtain ⟨h1, h2⟩ := hh
      obtain rfl : x = #[] := Array.eq_empty_of_size_eq_zero h1
      obtain rfl : y = #[] := Array.eq_empty_of_size_eq_zero h2
      exact .fn g
    · cases h
  · cases h

theorem SR.ev {C : Ctx} {s : AS} {S σ a w} (hr : SR C s S σ a w) (x : Operand) : AVR w S σ s.nx (s.ev x) (a.eval x) := by
  cases x with
  | tmp t => exact hr.fr t
  | const v =>
    simp only [AS.ev, Act.eval]
    cases h : cst v with
    | none => exact .one (.any _)
    | some p => exact .one (.lf (.pv (cst_sound h)))
  | func f => exact .one (.lf (.pv (.fn f)))
  | global g => exact .one (.any _)

/-- A value's cells are its cells. -/
theorem AVR.cells {w S σ n x v cs} (h : AVR w S σ n x v) (hc : x.cells = some cs) : LsR w S σ n cs v.cells := by
  cases h with
  | tup => simp [AV.cells] at hc
  | one h =>
    cases h with
    | any => simp [AV.cells] at hc
    | @lf y v h =>
      have hc' : cs = [y] := by cases y <;> simp [AV.cells] at hc <;> exact hc.symm
      subst hc'
      have h1 := h.one
      have hcs : v.cells = #[v] := by cases v <;> first | rfl | (simp [Value.oneCell'] at h1)
      rw [hcs]
      refine ⟨rfl, fun i z hz => ?_⟩
      match i with
      | 0 => simp only [List.getElem?_cons_zero, Option.some.injEq] at hz; subst hz; exact ⟨v, rfl, h⟩
      | i + 1 => simp at hz
    | agg h =>
      simp only [AV.cells, Option.some.injEq] at hc
      subst hc
      exact h

/-- Objects stand when the world grows beside them. -/
theorem ObjR.mono {w w' : World} {S S' : Nat → Prop} {σ σ' : Nat → Value} {n n' : Nat} {id : Nat} {o : AObj} (hk : ∀ b, S b → w'.heap[b]? = w.heap[b]?) (hS : ∀ b, S b → S' b)
    (hσ : ∀ i, i < n → σ' i = σ i) (hn : n ≤ n') (hid : id < n) (hb : ∀ b, blk (σ id) = some b → w'.heap[b]? = w.heap[b]?) (h : ObjR w S σ n id o) : ObjR w' S' σ' n' id o := by
  cases o with
  | box t cs =>
    obtain ⟨b, vs, h1, h2, h3⟩ := h
    exact ⟨b, vs, (hσ id hid).trans h1, (hb b (by rw [h1]; rfl)).trans h2, h3.mono hk hS hσ hn⟩
  | row t sz rows =>
    obtain ⟨h0, xs, h1, h2, h3⟩ := h
    refine ⟨h0, xs, ?_, h2, fun i j r p hi hj => ?_⟩
    · rw [hσ id hid]
      refine ⟨h1.1, ?_⟩
      rcases h1.2 with h4 | ⟨g, cap, cur, hv, hg, hh, r⟩
      · exact .inl h4
      · exact .inr ⟨g, cap, cur, hv, hg, (hb g (by rw [hv]; rfl)).trans hh, r⟩
    · obtain ⟨v, hv, hp⟩ := h3 i j r p hi hj
      exact ⟨v, hv, hp.mono hk hS⟩

theorem Keeps.refl (w : World) (B0 : Nat → Prop) : Keeps w w B0 := ⟨rfl, rfl, rfl, Nat.le_refl _, fun _ _ _ => rfl⟩

/-- A new object. -/
theorem SR.newBox {C : Ctx} {s : AS} {S σ a w} (hr : SR C s S σ a w) (t : Nat) {cs : List LV} {vs : Array Value} (h : LsR w S σ s.nx cs vs) :
    ∃ σ', SR C (s.new (.box t cs)) S σ' a (w.alloc (.cells vs t)) ∧ σ' s.nx = .pointer (some ⟨w.heap.size, 0, none⟩) ∧ ∀ i, i < s.nx → σ' i = σ i := by
  let σ' : Nat → Value := fun i => if i = s.nx then .pointer (some ⟨w.heap.size, 0, none⟩) else σ i
  have hσ : ∀ i, i < s.nx → σ' i = σ i := fun i hi => if_neg (by omega)
  have hσn : σ' s.nx = .pointer (some ⟨w.heap.size, 0, none⟩) := if_pos rfl
  have hold : ∀ b, b < w.heap.size → (w.alloc (.cells vs t)).heap[b]? = w.heap[b]? := fun b hb => heap_alloc_old w _ b hb
  have hk : ∀ b, S b → (w.alloc (.cells vs t)).heap[b]? = w.heap[b]? := fun b hb => hold b (hr.lt b hb)
  have hblk : ∀ id o b, s.hp id = some o → blk (σ id) = some b → b < w.heap.size := by
    intro id o b ho hb
    have := hr.hp.obj id o ho
    cases o with
    | box t cs =>
      obtain ⟨b', vs, h1, h2, _⟩ := this
      rw [h1] at hb
      simp only [blk, Option.some.injEq] at hb
      subst hb
      exact (Array.getElem?_eq_some_iff.1 h2).1
    | row t sz rows =>
      obtain ⟨_, xs, h1, _⟩ := this
      rcases h1.2 with ⟨h4, _⟩ | ⟨g, cap, cur, hv, hg, hh, r⟩
      · rw [h4] at hb; simp [blk] at hb
      · rw [hv] at hb
        simp only [blk, Option.some.injEq] at hb
        subst hb
        exact (Array.getElem?_eq_some_iff.1 hh).1
  refine ⟨σ', ⟨hr.size, hr.defers, fun i => (hr.fr i).mono hk (fun _ h => h) hσ (Nat.le_succ _), ⟨?_, ?_, ?_, ?_, ?_⟩, fun b hb => Nat.lt_of_lt_of_le (hr.lt b hb) (by simp), hr.le, ?_, Nat.le_succ_of_le hr.nx, ?_, hr.up⟩, hσn, hσ⟩
  · intro id o ho
    simp only [AS.new] at ho ⊢
    by_cases e : id = s.nx
    · omega
    · rw [show Nat.beq id s.nx = false from beq_ne e] at ho
      exact Nat.lt_succ_of_lt (hr.hp.lt id o ho)
  · intro id o ho
    simp only [AS.new] at ho ⊢
    by_cases e : id = s.nx
    · subst e
      simp only [Nat.beq_refl, cond_true, Option.some.injEq] at ho
      subst ho
      exact ⟨w.heap.size, vs, hσn, heap_alloc_new w _, h.mono hk (fun _ h => h) hσ (Nat.le_succ _)⟩
    · rw [show Nat.beq id s.nx = false from beq_ne e] at ho
      exact (hr.hp.obj id o ho).mono hk (fun _ h => h) hσ (Nat.le_succ _) (hr.hp.lt id o ho) (fun b hb => hold b (hblk id o b ho hb))
  · intro id o b ho hb
    simp only [AS.new] at ho
    by_cases e : id = s.nx
    · subst e
      rw [hσn] at hb
      simp only [blk, Option.some.injEq] at hb
      subst hb
      exact fun hS => absurd (hr.lt _ hS) (Nat.lt_irrefl _)
    · rw [show Nat.beq id s.nx = false from beq_ne e] at ho
      rw [hσ id (hr.hp.lt id o ho)] at hb
      exact hr.hp.notS id o b ho hb
  · intro id o b ho hb
    simp only [AS.new] at ho
    by_cases e : id = s.nx
    · subst e
      rw [hσn] at hb
      simp only [blk, Option.some.injEq] at hb
      subst hb
      exact .inr hr.keep.size
    · rw [show Nat.beq id s.nx = false from beq_ne e] at ho
      rw [hσ id (hr.hp.lt id o ho)] at hb
      exact hr.hp.own id o b ho hb
  · intro id id' o o' b ho ho' hb hb'
    simp only [AS.new] at ho ho'
    by_cases e : id = s.nx
    · subst e
      by_cases e' : id' = s.nx
      · exact e'.symm
      · rw [show Nat.beq id' s.nx = false from beq_ne e'] at ho'
        rw [hσn] at hb
        simp only [blk, Option.some.injEq] at hb
        subst hb
        rw [hσ id' (hr.hp.lt id' o' ho')] at hb'
        exact absurd (hblk id' o' _ ho' hb') (Nat.lt_irrefl _)
    · rw [show Nat.beq id s.nx = false from beq_ne e] at ho
      rw [hσ id (hr.hp.lt id o ho)] at hb
      by_cases e' : id' = s.nx
      · subst e'
        rw [hσn] at hb'
        simp only [blk, Option.some.injEq] at hb'
        subst hb'
        exact absurd (hblk id o _ ho hb) (Nat.lt_irrefl _)
      · rw [show Nat.beq id' s.nx = false from beq_ne e'] at ho'
        rw [hσ id' (hr.hp.lt id' o' ho')] at hb'
        exact hr.hp.inj id id' o o' b ho ho' hb hb'
  · exact ⟨hr.keep.os, hr.keep.tape, hr.keep.output, Nat.le_trans hr.keep.size (by simp), fun k hk hb => (hold k (Nat.lt_of_lt_of_le hk hr.keep.size)).trans (hr.keep.block k hk hb)⟩
  · intro id hid hc
    rw [hσ id (Nat.lt_of_lt_of_le hid hr.nx)]
    exact hr.hs id hid hc

end Go.Proofs.YtijjagkeaehhbaaGreat.Eng

/- The engine's operations are sound: types, loads, stores, fields, indices. -/
set_option linter.unusedSimpArgs false
set_option linter.unusedVariables false
namespace Go.Proofs.YtijjagkeaehhbaaGreat.Eng
open Go.RowKit (Below)

theorem eqPV_eq {a b : PV} (h : eqPV a b = true) : a = b := by
  unfold eqPV at h
  split at h <;> first | rfl | (cases h; done) | skip
  · simp only [Bool.and_eq_true, beq_iff_eq] at h; rw [h.1, h.2]
  · simp only [beq_iff_eq] at h; rw [h]
  · rename_i x y
    simp only [Bool.and_eq_true, beq_iff_eq] at h
    obtain rfl : x = ByteArray.empty := ByteArray.ext (Array.eq_empty_of_size_eq_zero h.1.2)
    obtain rfl : y = ByteArray.empty := ByteArray.ext (Array.eq_empty_of_size_eq_zero h.2)
    rfl
theorem eqPVs_eq : ∀ {a b : List PV}, eqPVs a b = true → a = b
  | [], [], _ => rfl
  | [], _ :: _, h => by simp [eqPVs] at h
  | _ :: _, [], h => by simp [eqPVs] at h
  | x :: a, y :: b, h => by
    simp only [eqPVs, Bool.and_eq_true] at h
    rw [eqPV_eq h.1, eqPVs_eq h.2]
theorem csts_get : ∀ {vs : List Value} {ps : List PV}, csts vs = some ps → ps.length = vs.length ∧ ∀ (i : Nat) p, ps[i]? = some p → ∃ v, vs[i]? = some v ∧ cst v = some p
  | [], ps, h => by simp only [csts, Option.some.injEq] at h; subst h; exact ⟨rfl, fun i p hp => by simp at hp⟩
  | v :: r, ps, h => by
    simp only [csts] at h
    split at h
    · rename_i p q hp hq
      cases h
      obtain ⟨h1, h2⟩ := csts_get hq
      refine ⟨by simp [h1], fun i x hx => ?_⟩
      match i with
      | 0 => simp only [List.getElem?_cons_zero, Option.some.injEq] at hx; subst hx; exact ⟨v, rfl, hp⟩
      | i + 1 => simpa using h2 i x (by simpa using hx)
    · cases h

structure TypeOk (P : Program) (t : Nat) (i : TI) (j : TypeInfo) (d : TypeDesc) (z : Value) : Prop where
  info : P.info? t = some j
  und : P.underlying t = some d
  size : j.size = i.size
  bytes : j.bytes = i.bytes
  agg : descAgg d = i.agg
  pos : 0 < i.size
  zero : j.zero = some z
  zsize : z.cells.size = i.size
  zcs : csts z.cells.toList = some i.zero
  zagg : zagg i.agg z = true
  el : ∀ e, i.el = some e → d = .slice e
  st : i.agg = true → ∃ fs, d = .struct fs
  str : i.str = true → d = .string
  knd : ∀ k, i.knd = some k → d = .int k
  fo : ∀ (f : Nat) (o : Nat × Nat × Bool), i.fo[f]? = some o → ∃ (fs : Array Field) (ft : Field) (q : TypeInfo) (e : TypeDesc), d = .struct fs ∧ fs[f]? = some ft ∧ ft.offset = o.1 ∧ P.info? ft.type = some q ∧ P.underlying ft.type = some e ∧ q.size = o.2.1 ∧ descAgg e = o.2.2 ∧ 0 < q.size
  fs : ∀ fs : Array Field, d = .struct fs → ∀ f : Nat, (fs[f]?).isSome = (i.fo[f]?).isSome

theorem zip_all {α β : Type} (p : α × β → Bool) : ∀ (xs : List α) (ys : List β), xs.length = ys.length → (xs.zip ys).all p = true → ∀ (i : Nat) (y : β), ys[i]? = some y → ∃ x, xs[i]? = some x ∧ p (x, y) = true
  | [], [], _, _, i, y, h => by simp at h
  | x :: xs, y :: ys, hl, ha, i, z, h => by
    simp only [List.zip_cons_cons, List.all_cons, Bool.and_eq_true] at ha
    match i with
    | 0 => simp only [List.getElem?_cons_zero, Option.some.injEq] at h; subst h; exact ⟨x, rfl, ha.1⟩
    | i + 1 => simpa using zip_all p xs ys (by simpa using hl) ha.2 i z (by simpa using h)
  | [], _ :: _, hl, _, _, _, _ => by simp at hl
  | _ :: _, [], hl, _, _, _, _ => by simp at hl

theorem typeOk {P : Program} {t : Nat} {i : TI} (h : tiOk P t i = true) : ∃ j d z, TypeOk P t i j d z := by
  unfold tiOk at h
  split at h
  · rename_i j d hj hd
    simp only [Bool.and_eq_true, beq_iff_eq, decide_eq_true_eq] at h
    obtain ⟨⟨⟨⟨⟨h1, h2⟩, h3⟩, h4⟩, h5⟩, h6⟩ := h
    split at h5
    · rename_i z hz
      simp only [Bool.and_eq_true, beq_iff_eq] at h5
      obtain ⟨⟨h5, h7⟩, h8⟩ := h5
      refine ⟨j, d, z, hj, hd, h1, h2, h3, h4, hz, h5, ?_, h8, ?_, ?_, ?_, ?_, ?_, ?_⟩
      · split at h7
        · rename_i l hl; rw [hl, eqPVs_eq h7]
        · cases h7
      · intro e he
        cases d <;> simp_all
      · intro ha
        rw [ha] at h3
        cases d with
        | struct fs => exact ⟨fs, rfl⟩
        | array n e => cases h6
        | _ => cases h3
      · intro hs
        cases d <;> simp_all
      · intro k hk
        cases d <;> simp_all
      · intro f o ho
        cases d with
        | struct fs =>
          simp only [Bool.and_eq_true, beq_iff_eq] at h6
          obtain ⟨ft, hft, hp⟩ := zip_all _ fs.toList i.fo h6.1.2 h6.2 f o ho
          dsimp only at hp
          simp only [Bool.and_eq_true, beq_iff_eq] at hp
          split at hp
          · rename_i q e hq he
            simp only [Bool.and_eq_true, beq_iff_eq, decide_eq_true_eq] at hp
            exact ⟨fs, ft, q, e, rfl, by simpa using hft, hp.1, hq, he, hp.2.1.1, hp.2.1.2, hp.2.2⟩
          · simp at hp
        | _ =>
          exfalso
          simp only [Bool.and_eq_true, beq_iff_eq] at h6
          first
            | (cases h6; done)
            | (have hl : i.fo.length = 0 := by first | exact h6.1.1.2 | exact h6.1.2 | exact h6.2
               have : i.fo = [] := List.eq_nil_of_length_eq_zero hl
               rw [this] at ho; simp at ho)
      · intro fs hfs f
        subst hfs
        simp only [Bool.and_eq_true, beq_iff_eq] at h6
        have hl := h6.1.2
        rw [Array.length_toList] at hl
        by_cases hf : f < i.fo.length
        · rw [Array.getElem?_eq_getElem (by omega), List.getElem?_eq_getElem hf]; rfl
        · rw [Array.getElem?_eq_none (by omega), List.getElem?_eq_none (by omega)]; rfl
    · cases h5
  · cases h

section
variable {P : Program} {t : Nat} {i : TI} {j : TypeInfo} {d : TypeDesc} {z : Value} (h : TypeOk P t i j d z) (w : World)
include h
theorem TypeOk.run_info : (typeInfo t).run P w = .ok j w := by simp [typeInfo, h.info]
theorem TypeOk.run_size : (sizeOf t).run P w = .ok i.size w := by simp [sizeOf, h.run_info, h.size]
theorem TypeOk.run_und : (underlying t).run P w = .ok d w := run_underlying h.und w
theorem TypeOk.run_agg : (isAgg t).run P w = .ok i.agg w := by
  rw [← h.agg]
  unfold isAgg
  rw [Sem.run_bind, h.run_und]
  simp only [Result.andThen_ok]
  cases d <;> rfl
theorem TypeOk.run_zero : (zeroValue t).run P w = .ok z w := by simp [zeroValue, h.run_info, h.zero]
theorem TypeOk.zls (S : Nat → Prop) (σ : Nat → Value) (n : Nat) : LsR w S σ n (pvs i.zero) z.cells := by
  obtain ⟨h1, h2⟩ := csts_get h.zcs
  have hpv : ∀ l : List PV, (pvs l).length = l.length ∧ ∀ (k : Nat) x, (pvs l)[k]? = some x → ∃ p, l[k]? = some p ∧ x = .pv p := by
    intro l
    induction l with
    | nil => exact ⟨rfl, fun k x hx => by simp [pvs] at hx⟩
    | cons p r ih =>
      refine ⟨by simp [pvs, ih.1], fun k x hx => ?_⟩
      match k with
      | 0 => simp only [pvs, List.getElem?_cons_zero, Option.some.injEq] at hx; exact ⟨p, rfl, hx.symm⟩
      | k + 1 => simpa using ih.2 k x (by simpa [pvs] using hx)
  refine ⟨by rw [(hpv i.zero).1, h1, Array.length_toList], fun k x hx => ?_⟩
  obtain ⟨p, hp, rfl⟩ := (hpv i.zero).2 k x hx
  obtain ⟨v, hv, hc⟩ := h2 k p hp
  exact ⟨v, by simpa using hv, .pv (cst_sound hc)⟩
end

theorem pvs_spec : ∀ l : List PV, (pvs l).length = l.length ∧ (∀ (k : Nat) x, (pvs l)[k]? = some x → ∃ p, l[k]? = some p ∧ x = .pv p) ∧ ∀ (k : Nat) p, l[k]? = some p → (pvs l)[k]? = some (.pv p) := by
  intro l
  induction l with
  | nil => exact ⟨rfl, fun k x hx => by simp [pvs] at hx, fun k p hp => by simp at hp⟩
  | cons p r ih =>
    refine ⟨by simp [pvs, ih.1], fun k x hx => ?_, fun k x hx => ?_⟩
    · match k with
      | 0 => simp only [pvs, List.getElem?_cons_zero, Option.some.injEq] at hx; exact ⟨p, rfl, hx.symm⟩
      | k + 1 => simpa using ih.2.1 k x (by simpa [pvs] using hx)
    · match k with
      | 0 => simp only [List.getElem?_cons_zero, Option.some.injEq] at hx; subst hx; rfl
      | k + 1 => simpa [pvs] using ih.2.2 k x (by simpa using hx)
theorem pures_spec : ∀ {l : List LV} {ps : List PV}, pures l = some ps → l = pvs ps
  | [], ps, h => by simp only [pures, Option.some.injEq] at h; subst h; rfl
  | x :: r, ps, h => by
    cases x with
    | pv p =>
      simp only [pures] at h
      split at h
      · rename_i q hq
        cases h
        rw [pures_spec hq]; rfl
      · cases h
    | _ => simp [pures] at h

theorem add_lit (b o k : Nat) : (⟨b, o, none⟩ : Addr).add k = ⟨b, o + k, none⟩ := by unfold Addr.add; split <;> simp_all

/-- Reading a type's cells at an address whose cells are known. -/
theorem load_cells {P : Program} {t : Nat} {i : TI} {j : TypeInfo} {d : TypeDesc} {z : Value} (ht : TypeOk P t i j d z) {w : World} {S : Nat → Prop} {σ : Nat → Value} {n : Nat}
    {b o : Nat} {cs : List LV} (hc : ∀ (k : Nat) x, cs[k]? = some x → ∃ v, w.cell? ⟨b, o + k, none⟩ = some v ∧ LVR w S σ n x v) {off : Nat} {v : AV} (hv : ofCells i.agg cs off i.size = some v) :
    ∃ cv, (Instr.loadAt t (.pointer (some ⟨b, o + off, none⟩))).run P w = .ok cv w ∧ AVR w S σ n v cv := by
  unfold ofCells at hv
  split at hv
  · rename_i hagg
    split at hv
    · rename_i hle
      cases hv
      have hle' := Nat.le_of_ble_eq_true hle
      obtain ⟨f, hf⟩ : ∃ f : Nat → Value, ∀ k x, cs[k]? = some x → w.cell? ⟨b, o + k, none⟩ = some (f k) ∧ LVR w S σ n x (f k) :=
        ⟨fun k => (w.cell? ⟨b, o + k, none⟩).getD undef, fun k x hx => by obtain ⟨v, h1, h2⟩ := hc k x hx; simp [h1, h2]⟩
      have hlen : ((List.range i.size).map fun k => f (off + k)).length = i.size := by simp
      have hl := run_loadCells_list (P := P) w ⟨b, o + off, none⟩ ((List.range i.size).map fun k => f (off + k)) (fun k v hk => by
        rw [add_lit]
        rw [List.getElem?_map] at hk
        cases hr : (List.range i.size)[k]? with
        | none => simp [hr] at hk
        | some m =>
          obtain ⟨hm, rfl⟩ := List.getElem?_eq_some_iff.1 hr
          simp only [List.length_range] at hm
          simp only [hr, Option.map_some, Option.some.injEq, List.getElem_range] at hk
          subst hk
          have := (hf (off + k) _ (List.getElem?_eq_getElem (by omega))).1
          rwa [Nat.add_assoc])
      rw [hlen] at hl
      refine ⟨.agg ((List.range i.size).map fun k => f (off + k)).toArray, ?_, ?_⟩
      · simp [Instr.loadAt, Instr.sureAddr, loadVar, ht.run_agg, hagg, ht.run_size, hl]
      · refine .one (.agg ⟨?_, fun k x hx => ?_⟩)
        · simp; omega
        · rw [List.getElem?_take] at hx
          split at hx
          · rename_i hk
            rw [List.getElem?_drop] at hx
            exact ⟨f (off + k), by simp [hk], (hf _ _ hx).2⟩
          · cases hx
    · cases hv
  · rename_i hagg
    split at hv
    · rename_i x hx
      cases hv
      obtain ⟨cv, h1, h2⟩ := hc off x hx
      exact ⟨cv, by simp [Instr.loadAt, Instr.sureAddr, loadVar, ht.run_agg, hagg, h1], .one (.lf h2)⟩
    · cases hv

/-- The cells of a box, of a row's element, of a pure element. -/
theorem box_cells {w : World} {S : Nat → Prop} {σ : Nat → Value} {n b t : Nat} {vs : Array Value} {cs : List LV} (hb : w.heap[b]? = some (.cells vs t (0, 0))) (h : LsR w S σ n cs vs) :
    ∀ (k : Nat) x, cs[k]? = some x → ∃ v, w.cell? ⟨b, 0 + k, none⟩ = some v ∧ LVR w S σ n x v := by
  intro k x hx
  obtain ⟨v, hv, hr⟩ := h.2 k x hx
  exact ⟨v, by rw [Nat.zero_add, cell_of_row w b k vs t (0, 0) hb]; exact hv, hr⟩

end Go.Proofs.YtijjagkeaehhbaaGreat.Eng

/- The engine's operations are sound: writes to objects. -/
set_option linter.unusedSimpArgs false
set_option linter.unusedVariables false
namespace Go.Proofs.YtijjagkeaehhbaaGreat.Eng
open Go.RowKit (Below)

theorem blk_lt {w S σ n id o b} (h : ObjR w S σ n id o) (hb : blk (σ id) = some b) : b < w.heap.size := by
  cases o with
  | box t cs =>
    obtain ⟨b', vs, h1, h2, _⟩ := h
    rw [h1] at hb
    simp only [blk, Option.some.injEq] at hb
    subst hb
    exact (Array.getElem?_eq_some_iff.1 h2).1
  | row t sz rows =>
    obtain ⟨_, xs, h1, _⟩ := h
    rcases h1.2 with ⟨h4, _⟩ | ⟨g, cap, cur, hv, hg, hh, r⟩
    · rw [h4] at hb; simp [blk] at hb
    · rw [hv] at hb
      simp only [blk, Option.some.injEq] at hb
      subst hb
      exact (Array.getElem?_eq_some_iff.1 hh).1

/-- An object's own block is written. -/
theorem SR.write {C : Ctx} {s : AS} {S σ a w w'} (hr : SR C s S σ a w) {id : Nat} {o o' : AObj} (ho : s.hp id = some o) {b : Nat} (hb : blk (σ id) = some b)
    (hk : ∀ k, k ≠ b → w'.heap[k]? = w.heap[k]?) (hsz : w'.heap.size = w.heap.size) (hos : w'.os = w.os) (htp : w'.tape = w.tape) (hout : w'.output = w.output)
    (h' : ObjR w' S σ s.nx id o') : SR C (s.setO id o') S σ a w' := by
  have hS : ∀ k, S k → w'.heap[k]? = w.heap[k]? := fun k h => hk k (fun e => hr.hp.notS id o b ho hb (e ▸ h))
  have hne : ∀ id' q, id' ≠ id → s.hp id' = some q → ∀ k, blk (σ id') = some k → w'.heap[k]? = w.heap[k]? := fun id' q hne hq k hbk =>
    hk k (fun e => hne (hr.hp.inj id' id q o b hq ho (e ▸ hbk) hb))
  refine ⟨hr.size, hr.defers, fun i => (hr.fr i).mono hS (fun _ h => h) (fun _ _ => rfl) (Nat.le_refl _), ⟨?_, ?_, ?_, ?_, ?_⟩, fun k h => hsz ▸ hr.lt k h, hr.le, ?_, hr.nx, hr.hs, hr.up⟩
  · intro j q hq
    simp only [AS.setO] at hq
    by_cases e : j = id
    · subst e; exact hr.hp.lt j o ho
    · rw [beq_ne e] at hq; exact hr.hp.lt j q hq
  · intro j q hq
    simp only [AS.setO] at hq
    by_cases e : j = id
    · subst e
      rw [Nat.beq_refl] at hq
      simp only [cond_true, Option.some.injEq] at hq
      subst hq; exact h'
    · rw [beq_ne e] at hq
      exact (hr.hp.obj j q hq).mono hS (fun _ h => h) (fun _ _ => rfl) (Nat.le_refl _) (hr.hp.lt j q hq) (hne j q e hq)
  · intro j q k hq hbk
    simp only [AS.setO] at hq
    by_cases e : j = id
    · subst e; exact hr.hp.notS j o k ho hbk
    · rw [beq_ne e] at hq; exact hr.hp.notS j q k hq hbk
  · intro j q k hq hbk
    simp only [AS.setO] at hq
    by_cases e : j = id
    · subst e; exact hr.hp.own j o k ho hbk
    · rw [beq_ne e] at hq; exact hr.hp.own j q k hq hbk
  · intro j j' q q' k hq hq' hbk hbk'
    simp only [AS.setO] at hq hq'
    have ex : ∀ i q, (bif Nat.beq i id then some o' else s.hp i) = some q → ∃ q, s.hp i = some q := by
      intro i q h
      by_cases e : i = id
      · subst e; exact ⟨o, ho⟩
      · rw [beq_ne e] at h; exact ⟨q, h⟩
    obtain ⟨q1, h1⟩ := ex j q hq
    obtain ⟨q2, h2⟩ := ex j' q' hq'
    exact hr.hp.inj j j' q1 q2 k h1 h2 hbk hbk'
  · refine ⟨hos.trans hr.keep.os, htp.trans hr.keep.tape, hout.trans hr.keep.output, hsz ▸ hr.keep.size, fun k hlt hB => ?_⟩
    refine (hk k (fun e => ?_)).trans (hr.keep.block k hlt hB)
    subst e
    rcases hr.hp.own id o k ho hb with h | h
    · exact hB h
    · omega

theorem LVR.off {w w' : World} {S S' : Nat → Prop} {σ σ' : Nat → Value} {n : Nat} {id : Nat} (hk : ∀ b, S b → w'.heap[b]? = w.heap[b]?) (hS : ∀ b, S b → S' b) (hσ : ∀ i, i ≠ id → σ' i = σ i)
    {x : LV} {v : Value} (h : LVR w S σ n x v) (hx : x.refs id = false) : LVR w' S' σ' n x v := by
  have ne : ∀ i, Nat.beq i id = false → i ≠ id := fun i h e => by rw [e, Nat.beq_refl] at h; cases h
  cases h with
  | pv h => exact .pv (h.mono hk hS)
  | any v h => exact .any v h
  | ptr hi h => exact .ptr hi ((hσ _ (ne _ hx)).trans h)
  | rp hi h => exact .rp hi ((hσ _ (ne _ hx)).trans h)
  | @sl i hi h1 => rw [← hσ i (ne _ hx)]; exact .sl hi (by rw [hσ i (ne _ hx)]; exact h1)
  | @clo g ids hi =>
    have hne : ∀ i ∈ ids, σ' i = σ i := fun i hm => hσ i (fun e => by
      subst e
      simp [LV.refs] at hx
      exact hx hm)
    have : ids.map σ = ids.map σ' := List.map_congr_left fun i hm => (hne i hm).symm
    rw [this]
    exact .clo fun i hm => ⟨(hi i hm).1, let ⟨b, hb⟩ := (hi i hm).2; ⟨b, (hne i hm).trans hb⟩⟩
theorem LVR.poison {w w' : World} {S S' : Nat → Prop} {σ σ' : Nat → Value} {n : Nat} {id : Nat} (hk : ∀ b, S b → w'.heap[b]? = w.heap[b]?) (hS : ∀ b, S b → S' b) (hσ : ∀ i, i ≠ id → σ' i = σ i)
    {x : LV} {v : Value} (h : LVR w S σ n x v) : LVR w' S' σ' n (x.poison id) v := by
  unfold LV.poison
  cases hx : x.refs id with
  | true => exact .any v h.one
  | false => exact h.off hk hS hσ hx
theorem LsR.off {w w' : World} {S S' : Nat → Prop} {σ σ' : Nat → Value} {n : Nat} {id : Nat} (hk : ∀ b, S b → w'.heap[b]? = w.heap[b]?) (hS : ∀ b, S b → S' b) (hσ : ∀ i, i ≠ id → σ' i = σ i)
    {xs : List LV} {vs : Array Value} (h : LsR w S σ n xs vs) (hx : anyRefs id xs = false) : LsR w' S' σ' n xs vs := by
  have all : ∀ (l : List LV), anyRefs id l = false → ∀ (i : Nat) x, l[i]? = some x → x.refs id = false := by
    intro l
    induction l with
    | nil => intro _ i x h; simp at h
    | cons y r ih =>
      intro hl i x hx
      simp only [anyRefs, Bool.or_eq_false_iff] at hl
      match i with
      | 0 => simp only [List.getElem?_cons_zero, Option.some.injEq] at hx; subst hx; exact hl.1
      | i + 1 => exact ih hl.2 i x (by simpa using hx)
  exact ⟨h.1, fun i x hi => let ⟨v, hv, hh⟩ := h.2 i x hi; ⟨v, hv, hh.off hk hS hσ (all xs hx i x hi)⟩⟩
theorem RVR.poison {w w' : World} {S S' : Nat → Prop} {σ σ' : Nat → Value} {n : Nat} {id : Nat} (hk : ∀ b, S b → w'.heap[b]? = w.heap[b]?) (hS : ∀ b, S b → S' b) (hσ : ∀ i, i ≠ id → σ' i = σ i)
    {x : RV} {v : Value} (h : RVR w S σ n x v) : RVR w' S' σ' n (x.poison id) v := by
  cases h with
  | any v => exact .any v
  | lf h => exact .lf (h.poison hk hS hσ)
  | @agg xs vs h =>
    show RVR w' S' σ' n (bif anyRefs id xs then .lf .any else .agg xs) (.agg vs)
    cases hx : anyRefs id xs with
    | true => exact .any _
    | false => exact .agg (h.off hk hS hσ hx)
theorem AVR.poison {w w' : World} {S S' : Nat → Prop} {σ σ' : Nat → Value} {n : Nat} {id : Nat} (hk : ∀ b, S b → w'.heap[b]? = w.heap[b]?) (hS : ∀ b, S b → S' b) (hσ : ∀ i, i ≠ id → σ' i = σ i)
    {x : AV} {v : Value} (h : AVR w S σ n x v) : AVR w' S' σ' n (x.poison id) v := by
  cases h with
  | one h => exact .one (h.poison hk hS hσ)
  | @tup rs vs hn h =>
    refine .tup (by simpa using hn) fun i r hi => ?_
    rw [List.getElem?_map] at hi
    cases hr : rs[i]? with
    | none => simp [hr] at hi
    | some q =>
      simp only [hr, Option.map_some, Option.some.injEq] at hi
      subst hi
      obtain ⟨v, hv, hh⟩ := h i q hr
      exact ⟨v, hv, hh.poison hk hS hσ⟩
theorem LsR.poison {w w' : World} {S S' : Nat → Prop} {σ σ' : Nat → Value} {n : Nat} {id : Nat} (hk : ∀ b, S b → w'.heap[b]? = w.heap[b]?) (hS : ∀ b, S b → S' b) (hσ : ∀ i, i ≠ id → σ' i = σ i)
    {xs : List LV} {vs : Array Value} (h : LsR w S σ n xs vs) : LsR w' S' σ' n (xs.map (LV.poison id)) vs :=
  ⟨by simpa using h.1, fun i x hi => by
    rw [List.getElem?_map] at hi
    cases hr : xs[i]? with
    | none => simp [hr] at hi
    | some q =>
      simp only [hr, Option.map_some, Option.some.injEq] at hi
      subst hi
      obtain ⟨v, hv, hh⟩ := h.2 i q hr
      exact ⟨v, hv, hh.poison hk hS hσ⟩⟩

/-- A row gets a new handle (append): its old references are forgotten. -/
theorem SR.move {C : Ctx} {s : AS} {S σ a w w'} (hr : SR C s S σ a w) {id : Nat} {o o' : AObj} (ho : s.hp id = some o) (hid : s.n0 ≤ id ∨ s.c0 id = true) {v' : Value}
    (hk : ∀ k, k < w.heap.size → some k ≠ blk (σ id) → w'.heap[k]? = w.heap[k]?) (hsz : w.heap.size ≤ w'.heap.size) (hos : w'.os = w.os) (htp : w'.tape = w.tape) (hout : w'.output = w.output)
    (hv : ∀ b, blk v' = some b → blk (σ id) = some b ∨ w.heap.size ≤ b)
    (h' : ∀ σ' : Nat → Value, σ' id = v' → ObjR w' S σ' s.nx id o') :
    ∃ σ', σ' id = v' ∧ SR C ((s.poison id).setO id o') S σ' a w' := by
  let σ' : Nat → Value := fun i => if i = id then v' else σ i
  have hσ : ∀ i, i ≠ id → σ' i = σ i := fun i hi => if_neg hi
  have hσid : σ' id = v' := if_pos rfl
  have hS : ∀ k, S k → w'.heap[k]? = w.heap[k]? := fun k h => hk k (hr.lt k h) (fun e => hr.hp.notS id o k ho e.symm h)
  have hne : ∀ id' q, id' ≠ id → s.hp id' = some q → ∀ k, blk (σ id') = some k → w'.heap[k]? = w.heap[k]? := fun id' q hne hq k hbk =>
    hk k (blk_lt (hr.hp.obj id' q hq) hbk) (fun e => hne (hr.hp.inj id' id q o k hq ho hbk e.symm))
  have get : ∀ j q, ((s.poison id).setO id o').hp j = some q → (j = id ∧ q = o') ∨ (j ≠ id ∧ ∃ q0, s.hp j = some q0 ∧ q = q0.poison id) := by
    intro j q hq
    simp only [AS.setO, AS.poison] at hq
    by_cases e : j = id
    · subst e
      rw [Nat.beq_refl] at hq
      simp only [cond_true, Option.some.injEq] at hq
      exact .inl ⟨rfl, hq.symm⟩
    · rw [beq_ne e] at hq
      simp only [cond_false, Option.map_eq_some_iff] at hq
      obtain ⟨q0, h1, h2⟩ := hq
      exact .inr ⟨e, q0, h1, h2.symm⟩
  have bl : ∀ j, j ≠ id → blk (σ' j) = blk (σ j) := fun j hj => by rw [hσ j hj]
  refine ⟨σ', hσid, hr.size, hr.defers, fun i => (hr.fr i).poison hS (fun _ h => h) hσ, ⟨?_, ?_, ?_, ?_, ?_⟩, fun k h => Nat.lt_of_lt_of_le (hr.lt k h) hsz, hr.le, ?_, hr.nx, ?_, hr.up⟩
  · intro j q hq
    rcases get j q hq with ⟨rfl, _⟩ | ⟨_, q0, h1, _⟩
    · exact hr.hp.lt j o ho
    · exact hr.hp.lt j q0 h1
  · intro j q hq
    rcases get j q hq with ⟨rfl, rfl⟩ | ⟨hj, q0, h1, rfl⟩
    · exact h' σ' hσid
    · have h2 := hr.hp.obj j q0 h1
      cases q0 with
      | box t cs =>
        obtain ⟨b, vs, hb, hh, hl⟩ := h2
        exact ⟨b, vs, (hσ j hj).trans hb, (hne j _ hj h1 b (by rw [hb]; rfl)).trans hh, hl.poison hS (fun _ h => h) hσ⟩
      | row t sz rows =>
        obtain ⟨h0, xs, h3, h4, h5⟩ := h2
        refine ⟨h0, xs, ?_, h4, fun i k r p hi hj' => ?_⟩
        · rw [hσ j hj]
          refine ⟨h3.1, ?_⟩
          rcases h3.2 with h6 | ⟨g, cap, cur, hv', hg, hh, r⟩
          · exact .inl h6
          · exact .inr ⟨g, cap, cur, hv', hg, (hne j _ hj h1 g (by rw [hv']; rfl)).trans hh, r⟩
        · obtain ⟨v, hv', hp⟩ := h5 i k r p hi hj'
          exact ⟨v, hv', hp.mono hS (fun _ h => h)⟩
  · intro j q k hq hbk
    rcases get j q hq with ⟨rfl, rfl⟩ | ⟨hj, q0, h1, rfl⟩
    · rw [hσid] at hbk
      rcases hv k hbk with h | h
      · exact hr.hp.notS j o k ho h
      · exact fun hs => by have := hr.lt k hs; omega
    · rw [bl j hj] at hbk
      exact hr.hp.notS j q0 k h1 hbk
  · intro j q k hq hbk
    rcases get j q hq with ⟨rfl, rfl⟩ | ⟨hj, q0, h1, rfl⟩
    · rw [hσid] at hbk
      rcases hv k hbk with h | h
      · exact hr.hp.own j o k ho h
      · exact .inr (Nat.le_trans hr.keep.size h)
    · rw [bl j hj] at hbk
      exact hr.hp.own j q0 k h1 hbk
  · intro j j' q q' k hq hq' hbk hbk'
    rcases get j q hq with ⟨rfl, rfl⟩ | ⟨hj, q0, h1, rfl⟩
    · rcases get j' q' hq' with ⟨rfl, rfl⟩ | ⟨hj', q0', h1', rfl⟩
      · rfl
      · rw [hσid] at hbk
        rw [bl j' hj'] at hbk'
        rcases hv k hbk with h | h
        · exact hr.hp.inj _ j' o q0' k ho h1' h hbk'
        · have := blk_lt (hr.hp.obj j' q0' h1') hbk'; omega
    · rw [bl j hj] at hbk
      rcases get j' q' hq' with ⟨rfl, rfl⟩ | ⟨hj', q0', h1', rfl⟩
      · rw [hσid] at hbk'
        rcases hv k hbk' with h | h
        · exact hr.hp.inj j _ q0 o k h1 ho hbk h
        · have := blk_lt (hr.hp.obj j q0 h1) hbk; omega
      · rw [bl j' hj'] at hbk'
        exact hr.hp.inj j j' q0 q0' k h1 h1' hbk hbk'
  · refine ⟨hos.trans hr.keep.os, htp.trans hr.keep.tape, hout.trans hr.keep.output, Nat.le_trans hr.keep.size hsz, fun k hlt' hB => ?_⟩
    refine (hk k (Nat.lt_of_lt_of_le hlt' hr.keep.size) (fun e => ?_)).trans (hr.keep.block k hlt' hB)
    rcases hr.hp.own id o k ho e.symm with h | h
    · exact hB h
    · omega
  · intro j hj hc
    rw [hσ j (fun e => by
      subst e
      rcases hid with h | h
      · simp only [AS.setO, AS.poison] at hj; omega
      · simp only [AS.setO, AS.poison] at hc; rw [h] at hc; cases hc)]
    exact hr.hs j hj hc

end Go.Proofs.YtijjagkeaehhbaaGreat.Eng
