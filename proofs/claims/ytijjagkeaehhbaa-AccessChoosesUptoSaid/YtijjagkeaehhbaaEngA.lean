/- An engine of our own: abstract values for the model's values, and how they are read. Its conditions stand in each statement. -/
import Derived.Laws.AppendOwn
import Derived.Laws.OwnMore
import Derived.Below
import Derived.Orders
import Derived.KernelRfl
set_option linter.unusedSimpArgs false
set_option linter.unusedVariables false
namespace Go.Proofs.Ytijjagkeaehhbaa.Eng
open Go.RowKit (Below)

/-- Pure values: what a value says, read through memory that nobody writes. -/
inductive PV where
  | int (k : IntKind) (n : Int)
  | bool (b : Bool)
  | str (s : ByteArray)
  | nils
  | vs (sz : Nat) (rows : List (List PV))
  | cp (row : List PV) (off : Nat)
  | nilp
  | nilf
  | nilif
  | fn (g : Nat)
  | ifc (t : Nat) (x : PV)
  | ifa (t : Nat) (xs : List PV)
instance : Inhabited PV := ⟨.nilp⟩

/-- Leaves: a pure value, whatever, a pointer into an object, an object's slice, a closure over boxes. -/
inductive LV where
  | pv (p : PV)
  | any
  | ptr (id off : Nat)
  | rp (id sz idx off : Nat)
  | sl (id : Nat)
  | clo (g : Nat) (ids : List Nat)
instance : Inhabited LV := ⟨.any⟩
inductive RV where
  | lf (x : LV)
  | agg (xs : List LV)
instance : Inhabited RV := ⟨.lf .any⟩
inductive AV where
  | one (r : RV)
  | tup (rs : List RV)
instance : Inhabited AV := ⟨.one (.lf .any)⟩
abbrev AV.any : AV := .one (.lf .any)
abbrev AV.pv (p : PV) : AV := .one (.lf (.pv p))
abbrev AV.lv (x : LV) : AV := .one (.lf x)
abbrev AV.agg (xs : List LV) : AV := .one (.agg xs)
abbrev AV.i (n : Int) : AV := .one (.lf (.pv (.int .i64 n)))
abbrev AV.b (x : Bool) : AV := .one (.lf (.pv (.bool x)))

/-- Objects of the call's own (or handed in): a variable; the row behind a slice. -/
inductive AObj where
  | box (t : Nat) (cs : List LV)
  | row (t sz : Nat) (rows : List (List PV))

/-- A pure value in a world; S: the blocks that may be read (nobody writes them). -/
inductive PVR (w : World) (S : Nat → Prop) : PV → Value → Prop where
  | int (k n) : PVR w S (.int k n) (.int k n)
  | bool (b) : PVR w S (.bool b) (.bool b)
  | str (s) : PVR w S (.str s) (.string s)
  | nils : PVR w S .nils (.slice none 0 0)
  | vs (sz rows A cap) (f : Nat → Nat → Value) (hc : rows.length ≤ cap) (hm : cap ≤ 9223372036854775807) (hN : A = none → cap = 0) (hs : ∀ r ∈ rows, r.length = sz)
      (hA : rows ≠ [] → ∃ b o, A = some ⟨b, o, none⟩ ∧ S b ∧ ∀ i j, i < rows.length → j < sz → w.cell? ⟨b, o + (i * sz + j), none⟩ = some (f i j))
      (h1 : ∀ i j, i < rows.length → j < sz → (f i j).oneCell' = true)
      (hp : ∀ i j r p, rows[i]? = some r → r[j]? = some p → PVR w S p (f i j)) : PVR w S (.vs sz rows) (.slice A rows.length cap)
  | cp (row off b o) (f : Nat → Value) (hS : S b) (hc : ∀ j, j < row.length → w.cell? ⟨b, o + j, none⟩ = some (f j)) (h1 : ∀ j, j < row.length → (f j).oneCell' = true)
      (hp : ∀ j p, row[j]? = some p → PVR w S p (f j)) : PVR w S (.cp row off) (.pointer (some ⟨b, o + off, none⟩))
  | nilp : PVR w S .nilp (.pointer none)
  | nilf : PVR w S .nilf .nilFunc
  | nilif : PVR w S .nilif .nilIface
  | fn (g) : PVR w S (.fn g) (.func (.func g) #[] #[])
  | ifc (t p v) (h : PVR w S p v) (h1 : v.oneCell' = true) : PVR w S (.ifc t p) (.iface t v)
  | ifa (t ps) (vs : Array Value) (hn : vs.size = ps.length) (hp : ∀ j p, ps[j]? = some p → PVR w S p (vs.getD j undef)) : PVR w S (.ifa t ps) (.iface t (.agg vs))

theorem cell_same {w w' : World} {b o : Nat} (h : w'.heap[b]? = w.heap[b]?) : w'.cell? ⟨b, o, none⟩ = w.cell? ⟨b, o, none⟩ := World.cell?_of_block (w := w) (a := ⟨b, o, none⟩) h

theorem PVR.mono {w w' : World} {S S' : Nat → Prop} (hk : ∀ b, S b → w'.heap[b]? = w.heap[b]?) (hS : ∀ b, S b → S' b) {p : PV} {v : Value} (h : PVR w S p v) : PVR w' S' p v := by
  induction h with
  | int k n => exact .int k n
  | bool b => exact .bool b
  | str s => exact .str s
  | nils => exact .nils
  | vs sz rows A cap f hc hm hN hs hA h1 hp ih =>
    refine .vs sz rows A cap f hc hm hN hs (fun hne => ?_) h1 (fun i j r p hr hj => ih i j r p hr hj)
    obtain ⟨b, o, hA, hb, hcell⟩ := hA hne
    exact ⟨b, o, hA, hS b hb, fun i j hi hj => (cell_same (hk b hb)).trans (hcell i j hi hj)⟩
  | cp row off b o f hSb hc h1 hp ih => exact .cp row off b o f (hS b hSb) (fun j hj => (cell_same (hk b hSb)).trans (hc j hj)) h1 ih
  | nilp => exact .nilp
  | nilf => exact .nilf
  | nilif => exact .nilif
  | fn g => exact .fn g
  | ifc t p v h h1 ih => exact .ifc t p v ih h1
  | ifa t ps vs hn hp ih => exact .ifa t ps vs hn ih

theorem PVR.one {w : World} {S : Nat → Prop} {p : PV} {v : Value} (h : PVR w S p v) : v.oneCell' = true := by cases h <;> rfl

/-- A leaf; σ: each object's handle (a box's pointer, a row's slice); n: the objects' names lie below it. -/
inductive LVR (w : World) (S : Nat → Prop) (σ : Nat → Value) (n : Nat) : LV → Value → Prop where
  | pv {p v} (h : PVR w S p v) : LVR w S σ n (.pv p) v
  | any (v) (h : v.oneCell' = true) : LVR w S σ n .any v
  | ptr {id off b} (hn : id < n) (h : σ id = .pointer (some ⟨b, 0, none⟩)) : LVR w S σ n (.ptr id off) (.pointer (some ⟨b, off, none⟩))
  | rp {id sz idx off b m c} (hn : id < n) (h : σ id = .slice (some ⟨b, 0, none⟩) m c) : LVR w S σ n (.rp id sz idx off) (.pointer (some ⟨b, idx * sz + off, none⟩))
  | sl {id} (hn : id < n) (h1 : (σ id).oneCell' = true) : LVR w S σ n (.sl id) (σ id)
  | clo {g ids} (hn : ∀ i ∈ ids, i < n ∧ ∃ b, σ i = .pointer (some ⟨b, 0, none⟩)) : LVR w S σ n (.clo g ids) (.func (.func g) #[] (ids.map σ).toArray)

theorem LVR.one {w : World} {S : Nat → Prop} {σ : Nat → Value} {n : Nat} {x : LV} {v : Value} (h : LVR w S σ n x v) : v.oneCell' = true := by
  cases h with
  | pv h => exact h.one
  | any v h => exact h
  | sl hn h1 => exact h1
  | _ => rfl

theorem LVR.mono {w w' : World} {S S' : Nat → Prop} {σ σ' : Nat → Value} {n n' : Nat} (hk : ∀ b, S b → w'.heap[b]? = w.heap[b]?) (hS : ∀ b, S b → S' b) (hσ : ∀ i, i < n → σ' i = σ i) (hn : n ≤ n')
    {x : LV} {v : Value} (h : LVR w S σ n x v) : LVR w' S' σ' n' x v := by
  cases h with
  | pv h => exact .pv (h.mono hk hS)
  | any v h => exact .any v h
  | ptr hi h => exact .ptr (Nat.lt_of_lt_of_le hi hn) ((hσ _ hi).trans h)
  | rp hi h => exact .rp (Nat.lt_of_lt_of_le hi hn) ((hσ _ hi).trans h)
  | @sl id hi h1 => rw [← hσ id hi]; exact .sl (Nat.lt_of_lt_of_le hi hn) (by rw [hσ id hi]; exact h1)
  | @clo g ids hi =>
    have : ids.map σ = ids.map σ' := List.map_congr_left fun i hm => (hσ i (hi i hm).1).symm
    rw [this]
    exact .clo fun i hm => ⟨Nat.lt_of_lt_of_le (hi i hm).1 hn, let ⟨b, hb⟩ := (hi i hm).2; ⟨b, (hσ i (hi i hm).1).trans hb⟩⟩

/-- A list of leaves against an array of cells. -/
def LsR (w : World) (S : Nat → Prop) (σ : Nat → Value) (n : Nat) (xs : List LV) (vs : Array Value) : Prop :=
  vs.size = xs.length ∧ ∀ (i : Nat) (x : LV), xs[i]? = some x → ∃ v, vs[i]? = some v ∧ LVR w S σ n x v
theorem LsR.mono {w w' : World} {S S' : Nat → Prop} {σ σ' : Nat → Value} {n n' : Nat} (hk : ∀ b, S b → w'.heap[b]? = w.heap[b]?) (hS : ∀ b, S b → S' b) (hσ : ∀ i, i < n → σ' i = σ i) (hn : n ≤ n')
    {xs : List LV} {vs : Array Value} (h : LsR w S σ n xs vs) : LsR w' S' σ' n' xs vs :=
  ⟨h.1, fun i x hx => let ⟨v, hv, hr⟩ := h.2 i x hx; ⟨v, hv, hr.mono hk hS hσ hn⟩⟩

inductive RVR (w : World) (S : Nat → Prop) (σ : Nat → Value) (n : Nat) : RV → Value → Prop where
  | any (v) : RVR w S σ n (.lf .any) v
  | lf {x v} (h : LVR w S σ n x v) : RVR w S σ n (.lf x) v
  | agg {xs vs} (h : LsR w S σ n xs vs) : RVR w S σ n (.agg xs) (.agg vs)
inductive AVR (w : World) (S : Nat → Prop) (σ : Nat → Value) (n : Nat) : AV → Value → Prop where
  | one {r v} (h : RVR w S σ n r v) : AVR w S σ n (.one r) v
  | tup {rs} {vs : Array Value} (hn : vs.size = rs.length) (h : ∀ (i : Nat) (r : RV), rs[i]? = some r → ∃ v, vs[i]? = some v ∧ RVR w S σ n r v) : AVR w S σ n (.tup rs) (.tuple vs)

theorem RVR.mono {w w' : World} {S S' : Nat → Prop} {σ σ' : Nat → Value} {n n' : Nat} (hk : ∀ b, S b → w'.heap[b]? = w.heap[b]?) (hS : ∀ b, S b → S' b) (hσ : ∀ i, i < n → σ' i = σ i) (hn : n ≤ n')
    {x : RV} {v : Value} (h : RVR w S σ n x v) : RVR w' S' σ' n' x v := by
  cases h with
  | any v => exact .any v
  | lf h => exact .lf (h.mono hk hS hσ hn)
  | agg h => exact .agg (h.mono hk hS hσ hn)
theorem AVR.mono {w w' : World} {S S' : Nat → Prop} {σ σ' : Nat → Value} {n n' : Nat} (hk : ∀ b, S b → w'.heap[b]? = w.heap[b]?) (hS : ∀ b, S b → S' b) (hσ : ∀ i, i < n → σ' i = σ i) (hn : n ≤ n')
    {x : AV} {v : Value} (h : AVR w S σ n x v) : AVR w' S' σ' n' x v := by
  cases h with
  | one h => exact .one (h.mono hk hS hσ hn)
  | tup hz h => exact .tup hz fun i r hr => let ⟨v, hv, hh⟩ := h i r hr; ⟨v, hv, hh.mono hk hS hσ hn⟩

/-- The block behind a handle. -/
def blk : Value → Option Nat
  | .pointer (some a) => some a.block
  | .slice (some a) _ _ => some a.block
  | _ => none

/-- The rows' cells, one after the other. -/
def flat (rows : List (List PV)) : List PV := rows.flatten

def ObjR (w : World) (S : Nat → Prop) (σ : Nat → Value) (n : Nat) (id : Nat) : AObj → Prop
  | .box t cs => ∃ b vs, σ id = .pointer (some ⟨b, 0, none⟩) ∧ w.heap[b]? = some (.cells vs t (0, 0)) ∧ LsR w S σ n cs vs
  | .row t sz rows => (∀ r ∈ rows, r.length = sz) ∧ ∃ xs, w.ownsRow 0 t sz (σ id) rows.length xs ∧ (∀ v ∈ xs, v.oneCell' = true) ∧
      ∀ i j r p, rows[i]? = some r → r[j]? = some p → ∃ v, xs[i * sz + j]? = some v ∧ PVR w S p v

structure HR (B : Nat → Prop) (w : World) (S : Nat → Prop) (σ : Nat → Value) (n : Nat) (hp : Nat → Option AObj) : Prop where
  lt : ∀ id o, hp id = some o → id < n
  obj : ∀ id o, hp id = some o → ObjR w S σ n id o
  notS : ∀ id o b, hp id = some o → blk (σ id) = some b → ¬ S b
  own : ∀ id o b, hp id = some o → blk (σ id) = some b → B b
  inj : ∀ id id' o o' b, hp id = some o → hp id' = some o' → blk (σ id) = some b → blk (σ id') = some b → id = id'

/-- The abstract state: slots, objects, the next name, how many slots; n0: the names that were there at the call's begin; c0: which of them may get another handle. -/
structure AS where
  fr : Nat → AV
  hp : Nat → Option AObj
  nx : Nat
  n : Nat
  n0 : Nat
  c0 : Nat → Bool

/-- What of the old world stands: all blocks but those that the call may write. -/
structure Keeps (w0 w : World) (B0 : Nat → Prop) : Prop where
  os : w.os = w0.os
  tape : w.tape = w0.tape
  output : w.output = w0.output
  size : w0.heap.size ≤ w.heap.size
  block : ∀ k, k < w0.heap.size → ¬ B0 k → w.heap[k]? = w0.heap[k]?

/-- The call's begin: the world, the readable blocks, the old blocks that may be written, the handles. -/
structure Ctx where
  w0 : World
  S0 : Nat → Prop
  B0 : Nat → Prop
  σ0 : Nat → Value
structure SR (C : Ctx) (s : AS) (S : Nat → Prop) (σ : Nat → Value) (a : Act) (w : World) : Prop where
  size : a.tmps.size = s.n
  defers : a.defers = []
  fr : ∀ i, AVR w S σ s.nx (s.fr i) (a.tmps.getD i undef)
  hp : HR (fun b => C.B0 b ∨ C.w0.heap.size ≤ b) w S σ s.nx s.hp
  lt : ∀ b, S b → b < w.heap.size
  le : ∀ b, C.S0 b → S b
  keep : Keeps C.w0 w C.B0
  nx : s.n0 ≤ s.nx
  hs : ∀ id, id < s.n0 → s.c0 id = false → σ id = C.σ0 id
  up : ∀ b, S b → C.S0 b ∨ C.w0.heap.size ≤ b ∨ C.B0 b
def St (C : Ctx) (s : AS) (a : Act) (w : World) : Prop := ∃ S σ, SR C s S σ a w

end Go.Proofs.Ytijjagkeaehhbaa.Eng
