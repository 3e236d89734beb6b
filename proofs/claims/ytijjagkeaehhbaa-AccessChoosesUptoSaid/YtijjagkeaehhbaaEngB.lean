/- The engine's operations on abstract states, as conditions (vc). -/
import Derived.Test.YtijjagkeaehhbaaEngA
set_option linter.unusedSimpArgs false
set_option linter.unusedVariables false
namespace Go.Proofs.Ytijjagkeaehhbaa.Eng
open Go.RowKit (Below)

/-- What the translation's table says of a type. fo: a struct's fields (offset, cells, is it an aggregate). el: a slice's elements. -/
structure TI where
  agg : Bool
  size : Nat
  bytes : Nat
  zero : List PV
  fo : List (Nat × Nat × Bool)
  el : Option Nat
  str : Bool
  knd : Option IntKind

def eqPV : PV → PV → Bool
  | .int k n, .int k' n' => k == k' && n == n'
  | .bool a, .bool b => a == b
  | .str a, .str b => a.toList == b.toList && a.size == 0 && b.size == 0
  | .nils, .nils => true
  | .nilp, .nilp => true
  | .nilf, .nilf => true
  | .nilif, .nilif => true
  | _, _ => false
def cst : Value → Option PV
  | .int k n => some (.int k n)
  | .bool b => some (.bool b)
  | .string s => some (.str s)
  | .slice none 0 0 => some .nils
  | .pointer none => some .nilp
  | .nilFunc => some .nilf
  | .nilIface => some .nilif
  | .func (.func g) a b => if a.size = 0 ∧ b.size = 0 then some (.fn g) else none
  | _ => none
def eqPVs : List PV → List PV → Bool
  | [], [] => true
  | a :: x, b :: y => eqPV a b && eqPVs x y
  | _, _ => false
def csts : List Value → Option (List PV)
  | [] => some []
  | v :: r => match cst v, csts r with | some p, some q => some (p :: q) | _, _ => none
def descAgg : TypeDesc → Bool | .struct _ | .array _ _ => true | _ => false
def zagg (b : Bool) : Value → Bool
  | .agg _ => b
  | .tuple _ => false
  | _ => !b
def tiOk (P : Program) (t : Nat) (i : TI) : Bool :=
  match P.info? t, P.underlying t with
  | some j, some d =>
    j.size == i.size && j.bytes == i.bytes && descAgg d == i.agg && decide (0 < i.size) &&
    (match j.zero with | some z => (z.cells.size == i.size) && (match csts z.cells.toList with | some l => eqPVs l i.zero | none => false) && zagg i.agg z | none => false) &&
    (match d with
      | .struct fs => i.el == none && !i.str && i.knd == none && (fs.toList.length == i.fo.length) && ((fs.toList.zip i.fo).all fun (f, o) => f.offset == o.1 && (match P.info? f.type, P.underlying f.type with | some q, some e => q.size == o.2.1 && descAgg e == o.2.2 && decide (0 < q.size) | _, _ => false))
      | .slice e => i.el == some e && i.fo.length == 0 && !i.str && i.knd == none
      | .string => i.el == none && i.fo.length == 0 && i.str && i.knd == none
      | .int k => i.el == none && i.fo.length == 0 && !i.str && i.knd == some k
      | .array _ _ => false
      | _ => i.el == none && i.fo.length == 0 && !i.str && i.knd == none)
  | _, _ => false
abbrev Tab := Nat → Option TI
def TOK (P : Program) (T : Tab) : Prop := ∀ t i, T t = some i → tiOk P t i = true

def LV.refs (id : Nat) : LV → Bool
  | .ptr i _ => Nat.beq i id
  | .rp i _ _ _ => Nat.beq i id
  | .sl i => Nat.beq i id
  | .clo _ ids => ids.contains id
  | _ => false
def LV.poison (id : Nat) (x : LV) : LV := bif x.refs id then .any else x
def anyRefs (id : Nat) : List LV → Bool
  | [] => false
  | x :: r => x.refs id || anyRefs id r
def RV.poison (id : Nat) : RV → RV
  | .lf x => .lf (x.poison id)
  | .agg xs => bif anyRefs id xs then .lf .any else .agg xs
def AV.poison (id : Nat) : AV → AV
  | .one r => .one (r.poison id)
  | .tup rs => .tup (rs.map (RV.poison id))
def AObj.poison (id : Nat) : AObj → AObj
  | .box t cs => .box t (cs.map (LV.poison id))
  | o => o

def AS.put (s : AS) (d : Option Nat) (v : AV) (K : AS → Prop) : Prop :=
  match d with
  | none => K s
  | some d => match Nat.blt d s.n with
    | true => K { s with fr := fun i => bif Nat.beq i d then v else s.fr i }
    | false => False
def AS.setO (s : AS) (id : Nat) (o : AObj) : AS := { s with hp := fun j => bif Nat.beq j id then some o else s.hp j }
def AS.new (s : AS) (o : AObj) : AS := { s with hp := fun j => bif Nat.beq j s.nx then some o else s.hp j, nx := s.nx + 1 }
def AS.poison (s : AS) (id : Nat) : AS := { s with fr := fun i => (s.fr i).poison id, hp := fun j => (s.hp j).map (AObj.poison id) }

def AS.ev (s : AS) : Operand → AV
  | .tmp t => s.fr t
  | .const v => match cst v with | some p => .pv p | none => .any
  | .func f => .pv (.fn f)
  | .global _ => .any

def pvs : List PV → List LV
  | [] => []
  | p :: r => .pv p :: pvs r
def pures : List LV → Option (List PV)
  | [] => some []
  | .pv p :: r => match pures r with | some q => some (p :: q) | none => none
  | _ :: _ => none
/-- A value's cells. -/
def AV.cells : AV → Option (List LV)
  | .one (.lf .any) => none
  | .one (.lf x) => some [x]
  | .one (.agg xs) => some xs
  | .tup _ => none
/-- Cells as a value of a type. -/
def ofCells (agg : Bool) (cs : List LV) (off n : Nat) : Option AV :=
  match agg with
  | true => match Nat.ble (off + n) cs.length with | true => some (.agg ((cs.drop off).take n)) | false => none
  | false => match cs[off]? with | some x => some (.lv x) | none => none
def splice (cs : List LV) (off : Nat) (xs : List LV) : List LV := cs.take off ++ (xs ++ cs.drop (off + xs.length))
def splicePV (cs : List PV) (off : Nat) (xs : List PV) : List PV := cs.take off ++ (xs ++ cs.drop (off + xs.length))

def cmpA (op : BinOp) (x y : Int) : Option Bool :=
  match op with
  | .eql => some (x == y) | .neq => some (x != y) | .lss => some (decide (x < y)) | .leq => some (decide (x ≤ y)) | .gtr => some (decide (x > y)) | .geq => some (decide (x ≥ y))
  | _ => none
def arithA (op : BinOp) (k : IntKind) (x y : Int) : Option Int :=
  match op with
  | .add => some (k.wrap (x + y)) | .sub => some (k.wrap (x - y)) | .mul => some (k.wrap (x * y))
  | _ => none
def strA (op : BinOp) (x y : ByteArray) : Option Bool :=
  match op with
  | .eql => some (x.toList == y.toList) | .neq => some (!(x.toList == y.toList)) | .lss => some (Op.bytesLess x.toList y.toList)
  | .leq => some (Op.bytesLess x.toList y.toList || x.toList == y.toList) | .gtr => some (!(Op.bytesLess x.toList y.toList || x.toList == y.toList)) | .geq => some (!(Op.bytesLess x.toList y.toList))
  | _ => none
/-- What '==' and '!=' give at values that are neither two numbers nor two strings. -/
structure EqV (P : Program) (op : BinOp) (t : Nat) (X Y : Operand) (x y : AV) (r : Bool) : Prop where
  run : ∀ (w : World) (S : Nat → Prop) (σ : Nat → Value) (n : Nat) (u v : Value), AVR w S σ n x u → AVR w S σ n y v → (eqGuard op t X Y u v).run P w = .ok () w ∧ (binOp op t u v).run P w = .ok (.bool r) w
def binA (P : Program) (op : BinOp) (ty : Nat) (X Y : Operand) (x y : AV) (K : AV → Prop) : Prop :=
  match x, y with
  | .one (.lf (.pv (.int k a))), .one (.lf (.pv (.int k' b))) =>
    match decide (k = k') with
    | true => match op with
      | .quo => b ≠ 0 ∧ K (.pv (.int k (k.wrap (a.tdiv b))))
      | .rem => b ≠ 0 ∧ K (.pv (.int k (a.tmod b)))
      | op => match cmpA op a b with
        | some r => K (.pv (.bool r))
        | none => match arithA op k a b with | some r => K (.pv (.int k r)) | none => False
    | false => False
  | .one (.lf (.pv (.str a))), .one (.lf (.pv (.str b))) =>
    match op with
    | .add => ((a.size + b.size : Nat) : Int) ≤ 9223372036854775807 ∧ K (.pv (.str (a ++ b)))
    | op => match strA op a b with | some r => K (.pv (.bool r)) | none => False
  | x, y => ∃ r, EqV P op ty X Y x y r ∧ K (.b r)

/-- The model enters the function's body. -/
def Ent (P : Program) (g : Nat) : Prop := ∀ (args : Array Value) (w : World), (callFunc g args).run P w = .ok (.enter g args) w
/-- A call: what holds of the state behind it. -/
structure CallR (P : Program) (g : Nat) (args : List AV) (s : AS) (R : AV → AS → Prop) : Prop where
  ent : Ent P g
  run : ∀ (C : Ctx) S σ a w, SR C s S σ a w → ∀ vs : Array Value, vs.size = args.length → (∀ (i : Nat) (x : AV), args[i]? = some x → ∃ v, vs[i]? = some v ∧ AVR w S σ s.nx x v) →
    Calls P g vs w fun e w' => ∃ v r s' S' σ', R r s' ∧ e = .returned v ∧ AVR w' S' σ' s'.nx r v ∧ SR C s' S' σ' a w'

def clos (ids : List Nat) : List AV := ids.map fun i => .lv (.ptr i 0)
def ids? : List AV → Option (List Nat)
  | [] => some []
  | .one (.lf (.ptr i 0)) :: r => match ids? r with | some q => some (i :: q) | none => none
  | _ :: _ => none

def builtinA (T : Tab) (b : Builtin) (ts : List Nat) (args : List AV) (s : AS) (K : AV → AS → Prop) : Prop :=
  match b, ts, args with
  | .len, t :: _, [x] => match T t with
    | some i => match x, i.str, i.el with
      | .one (.lf (.pv (.str b))), true, none => K (.i b.size) s
      | .one (.lf (.pv .nils)), false, some _ => K (.i 0) s
      | .one (.lf (.pv (.vs _ rows))), false, some _ => K (.i rows.length) s
      | .one (.lf (.sl id)), false, some _ => match s.hp id with | some (.row _ _ rows) => K (.i rows.length) s | _ => False
      | _, _, _ => False
    | none => False
  | .append, [t, t'], [x, y] => match decide (t = t'), T t with
    | true, some i => match i.el with
      | some e => match T e with
        | some ie =>
          match x with
          | .one (.lf (.sl id)) => match s.hp id with
            | some (.row te sz rows) => match Nat.beq te e, Nat.beq sz ie.size, (Nat.ble s.n0 id || s.c0 id) with
              | true, true, true => match y with
                | .one (.lf (.pv (.vs sz' ys))) => (sz' = sz ∧ (rows.length + ys.length) * ie.bytes ≤ 140737488355328 ∧ (rows.length + ys.length) ≤ 9223372036854775807) ∧ K (.lv (.sl id)) ((s.poison id).setO id (.row te sz (rows ++ ys)))
                | .one (.lf (.pv .nils)) => K (.lv (.sl id)) ((s.poison id).setO id (.row te sz rows))
                | .one (.lf (.sl id')) => match s.hp id' with
                  | some (.row te' sz' ys) => (Nat.beq id' id = false ∧ te' = te ∧ sz' = sz ∧ (rows.length + ys.length) * ie.bytes ≤ 140737488355328 ∧ (rows.length + ys.length) ≤ 9223372036854775807) ∧ K (.lv (.sl id)) ((s.poison id).setO id (.row te sz (rows ++ ys)))
                  | _ => False
                | _ => False
              | _, _, _ => False
            | _ => False
          | _ => False
        | none => False
      | none => False
    | _, _ => False
  | .max, _, [.one (.lf (.pv (.int k a))), .one (.lf (.pv (.int k' b)))] => match decide (k = k') with | true => K (.pv (.int k (if a < b then b else a))) s | false => False
  | .min, _, [.one (.lf (.pv (.int k a))), .one (.lf (.pv (.int k' b)))] => match decide (k = k') with | true => K (.pv (.int k (if b < a then b else a))) s | false => False
  | _, _, _ => False

/-- Parts laid into cells. -/
def fillA (place : Nat → Option (Nat × Nat)) (cs : List LV) : List (Nat × AV) → Option (List LV)
  | [] => some cs
  | (i, v) :: r => match place i, v.cells with
    | some (off, size), some xs => match Nat.beq xs.length size, Nat.ble (off + xs.length) cs.length with
      | true, true => fillA place (splice cs off xs) r
      | _, _ => none
    | _, _ => none
def chunk (sz : Nat) : Nat → List PV → List (List PV)
  | 0, _ => []
  | n + 1, l => l.take sz :: chunk sz n (l.drop sz)
def rep (l : List PV) : Nat → List PV
  | 0 => []
  | n + 1 => l ++ rep l n

/-- An operation that only reads: what it gives. -/
structure PureOp (P : Program) (o : Oper) (ev : Operand → AV) (r : AV) : Prop where
  run : ∀ (w : World) (S : Nat → Prop) (σ : Nat → Value) (n : Nat) (ρ : Operand → Value), (∀ x ∈ o.op.operands, AVR w S σ n (ev x) (ρ x)) → ∃ v, (execOp ρ o).run P w = .ok (.value v) w ∧ AVR w S σ n r v
/-- A method's call: which function, which receiver. -/
structure MethR (P : Program) (m : String) (x : AV) (f : Nat) (y : AV) : Prop where
  run : ∀ (w : World) (S : Nat → Prop) (σ : Nat → Value) (n : Nat) (v : Value), AVR w S σ n x v → ∃ u, AVR w S σ n y u ∧ ∀ args : Array Value, (invoke (.fn (.method m) #[]) (#[v] ++ args)).run P w = (callFunc f (#[u] ++ args)).run P w

/-- How a call is told: by what the function does, or as an operation of the model's own. -/
inductive Way where
  | call
  | pure

def vcOp (P : Program) (T : Tab) (o : Oper) (s : AS) (K : AS → Prop) : Prop :=
  match o.op with
  | .move x => s.put o.dst (s.ev x) K
  | .assign x => s.put o.dst (s.ev x) K
  | .pick c a b => match s.ev c with
    | .one (.lf (.pv (.bool t))) => (t = true → s.put o.dst (s.ev a) K) ∧ (t = false → s.put o.dst (s.ev b) K)
    | _ => False
  | .binOp op t x y _ => binA P op t x y (s.ev x) (s.ev y) fun v => s.put o.dst v K
  | .unOp op _ x => match op, s.ev x with
    | .not, .one (.lf (.pv (.bool b))) => s.put o.dst (.b !b) K
    | .neg, .one (.lf (.pv (.int k n))) => s.put o.dst (.pv (.int k (k.wrap (0 - n)))) K
    | _, _ => False
  | .nilCheck x => match s.ev x with
    | .one (.lf (.ptr i off)) => s.put o.dst (.lv (.ptr i off)) K
    | .one (.lf (.rp i z j off)) => s.put o.dst (.lv (.rp i z j off)) K
    | .one (.lf (.pv (.cp r off))) => s.put o.dst (.pv (.cp r off)) K
    | _ => ∃ r, PureOp P o s.ev r ∧ s.put o.dst r K
  | .extract x k => match s.ev x with
    | .tup rs => match rs[k]? with | some r => s.put o.dst (.one r) K | none => False
    | _ => False
  | .box t x => match T t, (s.ev x).cells with
    | some i, some cs => match Nat.beq cs.length i.size with
      | true => (s.new (.box t cs)).put o.dst (.lv (.ptr s.nx 0)) K
      | false => False
    | none, some cs => (s.new (.box t cs)).put o.dst (.lv (.ptr s.nx 0)) K
    | _, none => False
  | .alloc t => match T t with
    | some i => (s.new (.box t (pvs i.zero))).put o.dst (.lv (.ptr s.nx 0)) K
    | none => False
  | .load t p => match T t with
    | some i => match s.ev p with
      | .one (.lf (.ptr id off)) => match s.hp id with
        | some (.box _ cs) => match ofCells i.agg cs off i.size with | some v => s.put o.dst v K | none => False
        | _ => False
      | .one (.lf (.rp id sz idx off)) => match s.hp id with
        | some (.row _ sz' rows) => ∃ r, rows[idx]? = some r ∧ sz = sz' ∧ (match ofCells i.agg (pvs r) off i.size with | some v => s.put o.dst v K | none => False)
        | _ => False
      | .one (.lf (.pv (.cp r off))) => match ofCells i.agg (pvs r) off i.size with | some v => s.put o.dst v K | none => False
      | _ => False
    | none => False
  | .store t p x => match T t, (s.ev x).cells with
    | some i, some xs => match Nat.beq xs.length i.size with
      | true => match s.ev p with
        | .one (.lf (.ptr id off)) => match s.hp id with
          | some (.box t' cs) => match Nat.ble (off + xs.length) cs.length with
            | true => (s.setO id (.box t' (splice cs off xs))).put o.dst .any K
            | false => False
          | _ => False
        | .one (.lf (.rp id sz idx off)) => match s.hp id, pures xs with
          | some (.row t' sz' rows), some ps => ∃ r, rows[idx]? = some r ∧ sz = sz' ∧ off + ps.length ≤ r.length ∧ (s.setO id (.row t' sz' (rows.set idx (splicePV r off ps)))).put o.dst .any K
          | _, _ => False
        | _ => False
      | false => False
    | _, _ => False
  | .fieldAddr t p f => match T t with
    | some i => match i.fo[f]? with
      | some fo => match s.ev p with
        | .one (.lf (.ptr id off)) => s.put o.dst (.lv (.ptr id (off + fo.1))) K
        | .one (.lf (.rp id sz idx off)) => s.put o.dst (.lv (.rp id sz idx (off + fo.1))) K
        | .one (.lf (.pv (.cp r off))) => s.put o.dst (.pv (.cp r (off + fo.1))) K
        | _ => False
      | none => False
    | none => False
  | .field t x f => match T t with
    | some i => match i.fo[f]?, s.ev x with
      | some fo, .one (.agg xs) => match ofCells fo.2.2 xs fo.1 fo.2.1 with | some v => s.put o.dst v K | none => False
      | _, _ => False
    | none => False
  | .indexAddr t x ix => match T t with
    | some i => match i.el with
      | some e => match T e, s.ev x, s.ev ix with
        | some ie, .one (.lf (.pv (.vs sz rows))), .one (.lf (.pv (.int _ n))) => ∃ r, 0 ≤ n ∧ rows[n.toNat]? = some r ∧ sz = ie.size ∧ s.put o.dst (.pv (.cp r 0)) K
        | some ie, .one (.lf (.sl id)), .one (.lf (.pv (.int _ n))) => match s.hp id with
          | some (.row _ sz rows) => (0 ≤ n ∧ n < rows.length ∧ sz = ie.size) ∧ s.put o.dst (.lv (.rp id sz n.toNat 0)) K
          | _ => False
        | _, _, _ => False
      | none => False
    | none => False
  | .index t x ix => match T t with
    | some i => match i.str, s.ev x, s.ev ix with
      | true, .one (.lf (.pv (.str b))), .one (.lf (.pv (.int _ n))) => ∃ c : UInt8, 0 ≤ n ∧ b[n.toNat]? = some c ∧ s.put o.dst (.pv (.int .u8 c.toNat)) K
      | _, _, _ => False
    | none => False
  | .build t parts => match T t with
    | some i => match i.agg, fillA (fun k => i.fo[k]?.map fun fo => (fo.1, fo.2.1)) (pvs i.zero) (parts.toList.map fun p => (p.1, s.ev p.2)) with
      | true, some cs => s.put o.dst (.agg cs) K
      | _, _ => False
    | none => ∃ r, PureOp P o s.ev r ∧ s.put o.dst r K
  | .buildSlice t len parts => match T t with
    | some i => match i.el with
      | some e => match T e with
        | some ie => match Nat.ble (len * ie.size) 16777216, fillA (fun k => some (k * ie.size, ie.size)) (pvs (rep ie.zero len)) (parts.toList.map fun p => (p.1, s.ev p.2)) with
          | true, some cs => match pures cs with
            | some ps => ∃ own : Bool, match own with
              | true => (s.new (.row e ie.size (chunk ie.size len ps))).put o.dst (.lv (.sl s.nx)) K
              | false => s.put o.dst (.pv (.vs ie.size (chunk ie.size len ps))) K
            | none => False
          | _, _ => False
        | none => False
      | none => False
    | none => False
  | .makeFunc (.func g) first caps => match first.toList, ids? (caps.toList.map s.ev) with
    | [], some ids => s.put o.dst (.lv (.clo g ids)) K
    | _, _ => False
  | .call c => match c.callee with
    | .builtin b => builtinA T b c.argTypes.toList (c.args.toList.map s.ev) s fun v s' => s'.put o.dst v K
    | .value f => match s.ev f with
      | .one (.lf (.pv (.fn g))) => ∃ how : Way, match how with
        | .call => CallR P g (c.args.toList.map s.ev) s fun v s' => s'.put o.dst v K
        | .pure => ∃ r, PureOp P o s.ev r ∧ s.put o.dst r K
      | .one (.lf (.clo g ids)) => CallR P g (c.args.toList.map s.ev ++ clos ids) s fun v s' => s'.put o.dst v K
      | _ => False
    | .invoke r m => ∃ f y, MethR P m (s.ev r) f y ∧ CallR P f (y :: c.args.toList.map s.ev) s fun v s' => s'.put o.dst v K
  | .convert a b x => match T a, T b, s.ev x with
    | some _, some j, .one (.lf (.pv (.int _ n))) => match j.knd with | some k => s.put o.dst (.pv (.int k (k.wrap n))) K | none => False
    | some _, some j, .one (.lf (.pv (.str b))) => match j.str with | true => s.put o.dst (.pv (.str b)) K | false => False
    | _, _, _ => False
  | .makeSlice t l c => match T t with
    | some i => match i.el with
      | some e => match T e, s.ev l, s.ev c with
        | some ie, .one (.lf (.pv (.int _ a))), .one (.lf (.pv (.int _ b))) => (a = 0 ∧ 0 ≤ b ∧ ie.bytes * b.toNat ≤ 281474976710656 ∧ b.toNat ≤ 9223372036854775807) ∧ (s.new (.row e ie.size [])).put o.dst (.lv (.sl s.nx)) K
        | _, _, _ => False
      | none => False
    | none => False
  | _ => ∃ r, PureOp P o s.ev r ∧ s.put o.dst r K

end Go.Proofs.Ytijjagkeaehhbaa.Eng
