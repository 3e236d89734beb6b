/- What '==' says of two rectangles, and what the example of bitemporallaw49 (awake) computes. Each function's arguments are its condition. And what follows in this text; each statement bears its conditions. -/
import Derived.Test.YtijjagkeaehhbaaGreatKcg
import Derived.Lib.Bytealg
import Derived.Laws.Externs
/- What '==' says of two rectangles, and what the example of bitemporallaw49 (awake) computes. Each function's arguments are its condition. -/
set_option linter.unusedSimpArgs false
set_option linter.unusedVariables false
namespace Go.Proofs.YtijjagkeaehhbaaGreat.Eng
open Go.RowKit (Below)

theorem rect_of {w S σ n a b c d v} (h : AVR w S σ n (.agg [li a, li b, li c, li d]) v) : v = .agg #[.int .i64 a, .int .i64 b, .int .i64 c, .int .i64 d] := by
  obtain ⟨vs, rfl, h1, h2⟩ := agg_of h
  obtain ⟨u0, e0, h0⟩ := h2 0 _ rfl
  obtain ⟨u1, e1, h1'⟩ := h2 1 _ rfl
  obtain ⟨u2, e2, h2'⟩ := h2 2 _ rfl
  obtain ⟨u3, e3, h3'⟩ := h2 3 _ rfl
  rw [int_of h0] at e0
  rw [int_of h1'] at e1
  rw [int_of h2'] at e2
  rw [int_of h3'] at e3
  congr 1
  apply Array.ext
  · simpa using h1
  · intro i hi hj
    match i with
    | 0 => rw [Array.getElem?_eq_getElem hi] at e0; simpa using e0
    | 1 => rw [Array.getElem?_eq_getElem hi] at e1; simpa using e1
    | 2 => rw [Array.getElem?_eq_getElem hi] at e2; simpa using e2
    | 3 => rw [Array.getElem?_eq_getElem hi] at e3; simpa using e3
    | i + 4 => simp at h1; omega

theorem eqRect (a b c d a' b' c' d' : Int) (w : World) : (Op.equalIn 10000 48 (.agg #[.int .i64 a, .int .i64 b, .int .i64 c, .int .i64 d]) (.agg #[.int .i64 a', .int .i64 b', .int .i64 c', .int .i64 d'])).run Tryz.prog w = .ok ((a == a' && b == b') && (c == c' && d == d')) w := by
  have u3 := Tryz.underlying3
  have a3 := Tryz.isAgg3
  have z3 := Tryz.sizeOf3
  have u35 := Tryz.underlying35
  have a35 := Tryz.isAgg35
  have z35 := Tryz.sizeOf35
  have hS : Tryz.prog.underlying 48 = some (.struct (Tryz.prog.fieldsOf 48)) := by kernel_rfl
  have hp : Tryz.prog.stoodInHeld 48 = false := by kernel_rfl
  rw [show (10000 : Nat) = 9999 + 1 from rfl, run_equalIn_agg w 9999 48 _ _ hS hp]
  simp only [Program.fieldsOf, Tryz.underlying48]
  go_simp

  by_cases h1 : a = a' <;> by_cases h2 : b = b' <;> by_cases h3 : c = c' <;> by_cases h4 : d = d' <;> simp [h1, h2, h3, h4]
theorem eq_rect (X Y : Operand) (a b c d a' b' c' d' : Int) : EqV Tryz.prog .eql 48 X Y (.agg [li a, li b, li c, li d]) (.agg [li a', li b', li c', li d']) ((a == a' && b == b') && (c == c' && d == d')) := by
  constructor
  intro w S σ n u v hu hv
  rw [rect_of hu, rect_of hv]
  exact ⟨run_eqGuard_agg w .eql _ X Y _ _ (by kernel_rfl), by rw [run_eql_struct, eqRect]; rfl⟩

theorem pfx1 : pfx (leavesC (.mk 5 0 0 0 ⟨#[]⟩ ⟨#[]⟩ [cmpE 7 0 1, cmpE 11 1 2])) [0] = [[I 1, I 1, .str ⟨#[]⟩]] := by
  have hv : validV 1 1 ⟨#[]⟩ = true := by simp [validV, emptyB]
  simp [cmpE, leavesC, leavesCL, andB, emptyB, condE, condV, inSet, coreV, cdOfA, someA, noneA, hv, pfx, isEq, Cd.val]
theorem pfx2 : pfx (leavesC (cmpE 11 1 2)) [0] = [] := by
  have hv : validV 1 2 ⟨#[]⟩ = true := by simp [validV, emptyB]
  simp [cmpE, leavesC, leavesCL, andB, emptyB, condE, condV, inSet, coreV, cdOfA, someA, noneA, hv, pfx, isEq, Cd.val]

abbrev e1 : Ex := .mk 5 0 0 0 ⟨#[]⟩ ⟨#[]⟩ [cmpE 7 0 1, cmpE 11 1 2]
theorem leavesC1 : (leaves e1).length ≤ 1099511627776 := by
  have hv : validV 1 1 ⟨#[]⟩ = true := by simp [validV, emptyB]
  have hv' : validV 1 2 ⟨#[]⟩ = true := by simp [validV, emptyB]
  rw [leaves_cd]
  simp [cmpE, leavesC, leavesCL, andB, emptyB, condE, condV, inSet, coreV, cdOfA, someA, noneA, hv, hv']
theorem leavesC2 : (leaves (cmpE 11 1 2)).length ≤ 1099511627776 := by
  have hv' : validV 1 2 ⟨#[]⟩ = true := by simp [validV, emptyB]
  rw [leaves_cd]
  simp [cmpE, leavesC, leavesCL, andB, emptyB, condE, condV, inSet, coreV, cdOfA, someA, noneA, hv']
theorem ch1 (nm cols fo ch : PV) : AFunR Tryz.prog 13 [tabA nm cols [0] fo ch, .agg (pvs e1.row), .agg [li 0, li 0, li 0], per 0 1099511627776] (fun r => r = pathP 1 (.vs 3 [[I 1, I 1, .str ⟨#[]⟩]]) 0 0 0 0) := by
  have h := c_choose nm cols [0] fo ch e1 0 0 0 0 1099511627776 (by simp [Ex.fits, fitsL, cmpE]) leavesC1 (by decide)
  rw [pfx1] at h
  exact h
theorem ch2 (nm cols fo ch : PV) : AFunR Tryz.prog 13 [tabA nm cols [0] fo ch, .agg (pvs (cmpE 11 1 2).row), .agg [li 1, li 40, li 0], per 3 7] (fun r => r = pathP 3 .nils 3 7 40 41) := by
  have h := c_choose nm cols [0] fo ch (cmpE 11 1 2) 1 40 0 3 7 (by simp [Ex.fits, fitsL, cmpE]) leavesC2 (by decide)
  rw [pfx2] at h
  exact h
theorem cost1 : AFunR Tryz.prog 25 [pathA 1 [[I 1, I 1, .str ⟨#[]⟩]] 0 0 0 0, .i 100] (fun r => r = .i 7) := c_cost 1 [[I 1, I 1, .str ⟨#[]⟩]] 0 0 0 0 100 (by decide)

set_option maxRecDepth 20000 in
theorem c_awake : AFunR Tryz.prog 8 [] (fun r => r = .b true) := by
  refine afun_body T_ok mixed Tryz.func8 rfl (ent_of Tryz.func8 rfl rfl) (Nat.le_of_ble_eq_true rfl) ?_
  repeat' (first | exact True.intro | apply And.intro | (intro h; exact Bool.noConfusion h) | exact ok_op (by kernel_rfl) | exact ok_tr (by kernel_rfl) | intro _ | refine Exists.intro _ (And.intro (c_compare _ _ _).afun (And.intro rfl ?_)) | refine Exists.intro _ (And.intro (ch1 _ _ _ _).afun (And.intro rfl ?_)) | refine Exists.intro _ (And.intro (ch2 _ _ _ _).afun (And.intro rfl ?_)) | refine callR_of_fun cost1.afun rfl ?_ | refine Exists.intro _ (And.intro (eq_rect _ _ _ _ _ _ _ _ _ _) ?_) | refine Exists.intro _ (And.intro (by decide) (And.intro rfl (And.intro rfl ?_))) | refine @Exists.intro Bool _ false ?_ | apply fin_b | refine @Exists.intro Bool _ true ?_ | refine @Exists.intro Way _ .call ?_)

  all_goals rfl

end Go.Proofs.YtijjagkeaehhbaaGreat.Eng

/- What the comparisons of values and of rows compute. Each function's arguments are its condition. -/
set_option linter.unusedSimpArgs false
set_option linter.unusedVariables false
namespace Go.Proofs.YtijjagkeaehhbaaGreat.Eng
open Go.RowKit (Below)

/-- A value. -/
structure Vl where
  k : Int
  i : Int
  t : ByteArray
def Vl.row (v : Vl) : List PV := [I v.k, I v.i, .str v.t]
abbrev Vl.agg (v : Vl) : AV := .agg [li v.k, li v.i, .pv (.str v.t)]
theorem vlRow_get {a : List Vl} {j : Nat} {v : Vl} (h : a[j]? = some v) : (a.map Vl.row)[((j : Nat) : Int).toNat]? = some v.row := by
  have : ((j : Nat) : Int).toNat = j := rfl
  rw [this, List.getElem?_map, h]; rfl

def cmpI (x y : Int) : Int := if x < y then -1 else if y < x then 1 else 0
def cmpB (x y : ByteArray) : Int := Go.Lib.compareBytes x.data.toList y.data.toList
theorem c_isNaN (n : Int) : AFunR Tryz.prog 127 [.i n] (fun r => r = .b false) := by
  refine afun_body T_ok mixed Tryz.func127 rfl (ent_of Tryz.func127 rfl rfl) (Nat.le_of_ble_eq_true rfl) ?_
  repeat' (first | exact True.intro | apply And.intro | (intro h; exact Bool.noConfusion h) | exact ok_op (by kernel_rfl) | exact ok_tr (by kernel_rfl) | intro _ | apply fin_b | refine @Exists.intro Bool _ true ?_ | refine @Exists.intro Way _ .call ?_)
  all_goals simp
theorem c_cmpInt (a b : Int) : AFunR Tryz.prog 77 [.i a, .i b] (fun r => r = .i (cmpI a b)) := by
  refine afun_body T_ok mixed Tryz.func77 rfl (ent_of Tryz.func77 rfl rfl) (Nat.le_of_ble_eq_true rfl) ?_
  repeat' (first | exact True.intro | apply And.intro | (intro h; exact Bool.noConfusion h) | exact ok_op (by kernel_rfl) | exact ok_tr (by kernel_rfl) | intro _ | refine callR_of_fun (c_isNaN _).afun rfl ?_ | apply fin_i | refine @Exists.intro Bool _ true ?_ | refine @Exists.intro Way _ .call ?_)
  all_goals (unfold cmpI; grind)
theorem pure_cmpstr {ev : Operand → AV} {dst : Option Tmp} {ty : TypeId} {pos : String} {af : Array Edge} {gd : Option (Nat × Bool)} {x y : Operand} {a b : ByteArray} {ts : Array TypeId} (hf : ev (.func 198) = .pv (.fn 198)) (hx : ev x = .pv (.str a)) (hy : ev y = .pv (.str b)) :
    PureOp Tryz.prog ⟨dst, .call { callee := .value (.func 198), args := #[x, y], argTypes := ts }, ty, pos, af, gd⟩ ev (.i (cmpB a b)) := by
  constructor
  intro w S σ n ρ hρ
  have h1 := (hx ▸ hρ x (by simp [Op.operands, Call.operands])).str_inv
  have h2 := (hy ▸ hρ y (by simp [Op.operands, Call.operands])).str_inv
  have h0 : ρ (.func 198) = .func (.func 198) #[] #[] := by
    have := (hf ▸ hρ (.func 198) (by simp [Op.operands, Call.operands])).pv_inv
    generalize ρ (.func 198) = v at this
    cases this
    rfl
  refine ⟨_, ?_, .int .i64 (cmpB a b)⟩
  have hc := Go.Lib.run_compareString (P := Tryz.prog) a b w
  have he : (callFunc 198 #[.string a, .string b]).run Tryz.prog w = .ok (.value (.int .i64 (cmpB a b))) w := by
    rw [run_callFunc_extern (e := Extern.BytealgCompare.compare) Tryz.func198 rfl rfl (by kernel_rfl) (by kernel_rfl), hc]
    rfl
  simp only [execOp, resolve, Sem.run_bind, Sem.run_pure, Result.andThen_ok, h0, h1, h2, Deferred.ofValue, invoke, Array.empty_append, Array.append_empty, List.map_toArray, List.map_cons, List.map_nil]
  exact he
theorem c_cmpString (a b : ByteArray) : AFunR Tryz.prog 197 [.pv (.str a), .pv (.str b)] (fun r => r = .i (cmpB a b)) := by
  refine afun_body T_ok mixed Tryz.func197 rfl (ent_of Tryz.func197 rfl rfl) (Nat.le_of_ble_eq_true rfl) ?_
  repeat' (first | exact True.intro | apply And.intro | (intro h; exact Bool.noConfusion h) | exact ok_op (by kernel_rfl) | exact ok_tr (by kernel_rfl) | intro _ | refine @Exists.intro Way _ .pure (Exists.intro _ (And.intro (pure_cmpstr rfl rfl rfl) ?_)) | apply fin_i | refine @Exists.intro Bool _ true ?_ | refine @Exists.intro Way _ .call ?_)
  all_goals rfl
theorem c_strCompare (a b : ByteArray) : AFunR Tryz.prog 196 [.pv (.str a), .pv (.str b)] (fun r => r = .i (cmpB a b)) := by
  refine afun_body T_ok mixed Tryz.func196 rfl (ent_of Tryz.func196 rfl rfl) (Nat.le_of_ble_eq_true rfl) ?_
  repeat' (first | exact True.intro | apply And.intro | (intro h; exact Bool.noConfusion h) | exact ok_op (by kernel_rfl) | exact ok_tr (by kernel_rfl) | intro _ | refine callR_of_fun (c_cmpString _ _).afun rfl ?_ | apply fin_i | refine @Exists.intro Bool _ true ?_ | refine @Exists.intro Way _ .call ?_)
  all_goals rfl

/-- The first number that is not zero. -/
def orL : List Int → Int
  | [] => 0
  | x :: r => if x ≠ 0 then x else orL r
theorem c_or (l : List Int) (hl : l.length ≤ 9223372036854775807) : AFunR Tryz.prog 76 [.pv (.vs 1 (keyRows l))] (fun r => r = .i (orL l)) := by
  refine afun_body T_ok mixed Tryz.func76 rfl (ent_of Tryz.func76 rfl rfl) (Nat.le_of_ble_eq_true rfl) ?_
  have hlen : (keyRows l).length = l.length := List.length_map ..
  repeat' (first | exact True.intro | apply And.intro | (intro h; exact Bool.noConfusion h) | exact ok_op (by kernel_rfl) | exact ok_tr (by kernel_rfl) | intro _ | refine @Exists.intro Bool _ true ?_ | refine @Exists.intro Way _ .call ?_)
  refine ⟨fun m st => ∃ j : Nat, j ≤ l.length ∧ orL (l.drop j) = orL l ∧ m = l.length - j ∧ st = AS.on [(3, .i 0), (6, .pv (.vs 1 (keyRows l))), (7, .i (keyRows l).length), (8, .i j)] [] 0 18 0 (fun _ => false), ⟨l.length, _, ⟨0, Nat.zero_le _, rfl, rfl, rfl⟩, ?_⟩, ?_⟩
  · refine weak_on rfl rfl rfl rfl ?_ ?_
    repeat' (first | exact True.intro | apply And.intro | (intro h; exact Bool.noConfusion h) | exact ok_op (by kernel_rfl) | exact ok_tr (by kernel_rfl) | intro _ | rfl | refine @Exists.intro Bool _ true ?_ | refine @Exists.intro Way _ .call ?_)
  · rintro m st ⟨j, hj, heq, rfl, rfl⟩
    by_cases hlt : j < l.length
    · obtain ⟨x, hx⟩ : ∃ x, l[j]? = some x := ⟨_, List.getElem?_eq_getElem hlt⟩
      have hrow := keyRow_get hx
      have hdrop : l.drop j = x :: l.drop (j + 1) := by
        rw [List.drop_eq_getElem_cons hlt]
        rw [List.getElem?_eq_getElem hlt] at hx
        rw [Option.some.inj hx]
      rw [hdrop, orL] at heq
      repeat' (first | exact True.intro | apply And.intro | (intro h; exact Bool.noConfusion h) | exact ok_op (by kernel_rfl) | exact ok_tr (by kernel_rfl) | intro _ | refine Exists.intro _ (And.intro (Int.natCast_nonneg j) (And.intro hrow (And.intro rfl ?_))) | apply fin_i | rfl | refine @Exists.intro Bool _ true ?_ | refine @Exists.intro Way _ .call ?_)
      all_goals first
        | (exfalso; have := of_decide_eq_false ‹decide ((j : Int) < (keyRows l).length) = false›; omega)
        | (rw [if_pos (by simp_all)] at heq; exact heq)
        | skip
      refine ⟨l.length - (j + 1), _, by omega, ⟨j + 1, hlt, by rw [if_neg (by simp_all)] at heq; exact heq, rfl, rfl⟩, weak_on rfl rfl rfl rfl ?_ ?_⟩
      · repeat' (first | exact True.intro | apply And.intro | (intro h; exact Bool.noConfusion h) | exact ok_op (by kernel_rfl) | exact ok_tr (by kernel_rfl) | intro _ | rfl | (apply fin_i; rw [wrap_id] <;> omega) | refine @Exists.intro Bool _ true ?_ | refine @Exists.intro Way _ .call ?_)
      · repeat' (first | exact True.intro | apply And.intro | (intro h; exact Bool.noConfusion h) | exact ok_op (by kernel_rfl) | exact ok_tr (by kernel_rfl) | intro _ | rfl | refine Exists.intro _ (And.intro rfl ?_) | refine @Exists.intro Bool _ true ?_ | refine @Exists.intro Way _ .call ?_)
    · have hje : j = l.length := by omega
      rw [hje, List.drop_length, orL] at heq
      repeat' (first | exact True.intro | apply And.intro | (intro h; exact Bool.noConfusion h) | exact ok_op (by kernel_rfl) | exact ok_tr (by kernel_rfl) | intro _ | apply fin_i | rfl | refine @Exists.intro Bool _ true ?_ | refine @Exists.intro Way _ .call ?_)
      all_goals first
        | (exfalso; have := of_decide_eq_true ‹decide ((j : Int) < (keyRows l).length) = true›; omega)
        | exact heq

def vcmp (a b : Vl) : Int := orL [cmpI a.k b.k, cmpI a.i b.i, cmpB a.t b.t]
set_option maxRecDepth 20000 in
theorem c_vcmp (a b : Vl) : AFunR Tryz.prog 192 [a.agg, b.agg] (fun r => r = .i (vcmp a b)) := by
  obtain ⟨ak, ai, at'⟩ := a
  obtain ⟨bk, bi, bt⟩ := b
  have ho := c_or [cmpI ak bk, cmpI ai bi, cmpB at' bt] (by simp)
  refine afun_body T_ok mixed Tryz.func192 rfl (ent_of Tryz.func192 rfl rfl) (Nat.le_of_ble_eq_true rfl) ?_
  repeat' (first | exact True.intro | apply And.intro | (intro h; exact Bool.noConfusion h) | exact ok_op (by kernel_rfl) | exact ok_tr (by kernel_rfl) | intro _ | refine Exists.intro _ (And.intro (c_cmpInt _ _).afun (And.intro rfl ?_)) | refine Exists.intro _ (And.intro (c_strCompare _ _).afun (And.intro rfl ?_)) | refine Exists.intro _ (And.intro ho.afun (And.intro rfl ?_)) | refine @Exists.intro Bool _ false ?_ | apply fin_i | refine @Exists.intro Bool _ true ?_ | refine @Exists.intro Way _ .call ?_)
  all_goals rfl

end Go.Proofs.YtijjagkeaehhbaaGreat.Eng

/- What the comparisons of rows compute, the program's and the reference's, and that they agree on what is equal. Each function's arguments are its condition. -/
set_option linter.unusedSimpArgs false
set_option linter.unusedVariables false
namespace Go.Proofs.YtijjagkeaehhbaaGreat.Eng
open Go.RowKit (Below)

def rcmp : List Vl → List Vl → Int
  | [], [] => 0
  | [], _ :: _ => -1
  | _ :: _, [] => 1
  | x :: a, y :: b => if vcmp x y ≠ 0 then vcmp x y else rcmp a b
theorem rcmp_nil (b : List Vl) : rcmp [] b = if b.length = 0 then 0 else -1 := by
  cases b <;> simp [rcmp]
theorem rcmp_cons_nil (x : Vl) (a b : List Vl) (h : b.length = 0) : rcmp (x :: a) b = 1 := by
  cases b with
  | nil => rfl
  | cons y b => simp at h
theorem drop_get {α : Type} {l : List α} {j : Nat} {x : α} (h : l[j]? = some x) : l.drop j = x :: l.drop (j + 1) := by
  obtain ⟨hlt, he⟩ := List.getElem?_eq_some_iff.1 h
  rw [List.drop_eq_getElem_cons hlt, he]
abbrev vlA (a : List Vl) : AV := .pv (.vs 3 (a.map Vl.row))

theorem c_cmpF (a b : List Vl) (ha : a.length ≤ 9223372036854775807) (hb : b.length ≤ 9223372036854775807) :
    AFunR Tryz.prog 191 [vlA a, vlA b, .pv (.fn 192)] (fun r => r = .i (rcmp a b)) := by
  refine afun_body T_ok mixed Tryz.func191 rfl (ent_of Tryz.func191 rfl rfl) (Nat.le_of_ble_eq_true rfl) ?_
  have hla : (a.map Vl.row).length = a.length := List.length_map ..
  have hlb : (b.map Vl.row).length = b.length := List.length_map ..
  repeat' (first | exact True.intro | apply And.intro | (intro h; exact Bool.noConfusion h) | exact ok_op (by kernel_rfl) | exact ok_tr (by kernel_rfl) | intro _ | refine @Exists.intro Bool _ true ?_ | refine @Exists.intro Way _ .call ?_)
  refine ⟨fun m st => ∃ j : Nat, j ≤ a.length ∧ j ≤ b.length ∧ rcmp (a.drop j) (b.drop j) = rcmp a b ∧ m = a.length - j ∧ st = AS.on [(0, vlA a), (1, vlA b), (2, .pv (.fn 192)), (11, vlA a), (12, .i (a.map Vl.row).length), (13, .i j)] [] 0 39 0 (fun _ => false), ⟨a.length, _, ⟨0, Nat.zero_le _, Nat.zero_le _, rfl, rfl, rfl⟩, ?_⟩, ?_⟩
  · refine weak_on rfl rfl rfl rfl ?_ ?_
    repeat' (first | exact True.intro | apply And.intro | (intro h; exact Bool.noConfusion h) | exact ok_op (by kernel_rfl) | exact ok_tr (by kernel_rfl) | intro _ | rfl | refine @Exists.intro Bool _ true ?_ | refine @Exists.intro Way _ .call ?_)
  · rintro m st ⟨j, hja, hjb, heq, rfl, rfl⟩
    by_cases hlt : j < a.length
    · obtain ⟨x, hx⟩ : ∃ x, a[j]? = some x := ⟨_, List.getElem?_eq_getElem hlt⟩
      have hrow := vlRow_get hx
      rw [drop_get hx] at heq
      by_cases hltb : j < b.length
      · obtain ⟨y, hy⟩ : ∃ y, b[j]? = some y := ⟨_, List.getElem?_eq_getElem hltb⟩
        have hrowb := vlRow_get hy
        rw [drop_get hy, rcmp] at heq
        have hv := c_vcmp x y
        generalize hc : vcmp x y = c at hv heq
        obtain ⟨xk, xi, xt⟩ := x
        obtain ⟨yk, yi, yt⟩ := y
        repeat' (first | exact True.intro | apply And.intro | (intro h; exact Bool.noConfusion h) | exact ok_op (by kernel_rfl) | exact ok_tr (by kernel_rfl) | intro _ | refine Exists.intro _ (And.intro (Int.natCast_nonneg j) (And.intro hrow (And.intro rfl ?_))) | refine Exists.intro _ (And.intro (Int.natCast_nonneg j) (And.intro hrowb (And.intro rfl ?_))) | refine callR_of_fun hv.afun rfl ?_ | apply fin_i | rfl | refine @Exists.intro Bool _ true ?_ | refine @Exists.intro Way _ .call ?_)
        all_goals first
          | (exfalso; have := of_decide_eq_false ‹decide ((j : Int) < (a.map Vl.row).length) = false›; omega)
          | (exfalso; have := of_decide_eq_true ‹decide ((j : Int) ≥ (b.map Vl.row).length) = true›; omega)
          | (rw [if_pos (by simp_all)] at heq; exact heq)
          | skip
        refine ⟨a.length - (j + 1), _, by omega, ⟨j + 1, hlt, hltb, by rw [if_neg (by simp_all)] at heq; exact heq, rfl, rfl⟩, weak_on rfl rfl rfl rfl ?_ ?_⟩
        · repeat' (first | exact True.intro | apply And.intro | (intro h; exact Bool.noConfusion h) | exact ok_op (by kernel_rfl) | exact ok_tr (by kernel_rfl) | intro _ | rfl | (apply fin_i; rw [wrap_id] <;> omega) | refine @Exists.intro Bool _ true ?_ | refine @Exists.intro Way _ .call ?_)
        · repeat' (first | exact True.intro | apply And.intro | (intro h; exact Bool.noConfusion h) | exact ok_op (by kernel_rfl) | exact ok_tr (by kernel_rfl) | intro _ | rfl | refine Exists.intro _ (And.intro rfl ?_) | refine @Exists.intro Bool _ true ?_ | refine @Exists.intro Way _ .call ?_)
      · have hjbe : j = b.length := by omega
        rw [rcmp_cons_nil _ _ _ (by rw [List.length_drop]; omega)] at heq
        obtain ⟨xk, xi, xt⟩ := x
        repeat' (first | exact True.intro | apply And.intro | (intro h; exact Bool.noConfusion h) | exact ok_op (by kernel_rfl) | exact ok_tr (by kernel_rfl) | intro _ | refine Exists.intro _ (And.intro (Int.natCast_nonneg j) (And.intro hrow (And.intro rfl ?_))) | apply fin_i | rfl | refine @Exists.intro Bool _ true ?_ | refine @Exists.intro Way _ .call ?_)
        all_goals first
          | (exfalso; have := of_decide_eq_false ‹decide ((j : Int) < (a.map Vl.row).length) = false›; omega)
          | (exfalso; have := of_decide_eq_false ‹decide ((j : Int) ≥ (b.map Vl.row).length) = false›; omega)
          | exact heq
    · have hje : j = a.length := by omega
      rw [hje, List.drop_length, rcmp_nil, List.length_drop] at heq
      repeat' (first | exact True.intro | apply And.intro | (intro h; exact Bool.noConfusion h) | exact ok_op (by kernel_rfl) | exact ok_tr (by kernel_rfl) | intro _ | apply fin_i | rfl | refine @Exists.intro Bool _ true ?_ | refine @Exists.intro Way _ .call ?_)
      all_goals first
        | (exfalso; have := of_decide_eq_true ‹decide ((j : Int) < (a.map Vl.row).length) = true›; omega)
        | (rw [← heq, if_neg]; have := of_decide_eq_true ‹decide (((a.map Vl.row).length : Int) < (b.map Vl.row).length) = true›; omega)
        | (rw [← heq, if_pos]; have := of_decide_eq_false ‹decide (((a.map Vl.row).length : Int) < (b.map Vl.row).length) = false›; omega)

theorem c_tcmp (a b : List Vl) (ha : a.length ≤ 9223372036854775807) (hb : b.length ≤ 9223372036854775807) : AFunR Tryz.prog 183 [vlA a, vlA b] (fun r => r = .i (rcmp a b)) := by
  refine afun_body T_ok mixed Tryz.func183 rfl (ent_of Tryz.func183 rfl rfl) (Nat.le_of_ble_eq_true rfl) ?_
  repeat' (first | exact True.intro | apply And.intro | (intro h; exact Bool.noConfusion h) | exact ok_op (by kernel_rfl) | exact ok_tr (by kernel_rfl) | intro _ | refine callR_of_fun (c_cmpF a b ha hb).afun rfl ?_ | apply fin_i | refine @Exists.intro Bool _ true ?_ | refine @Exists.intro Way _ .call ?_)
  all_goals rfl

/-! the reference -/
def sgnB (l g : Bool) : Int := if l = true then -1 else if g = true then 1 else 0
theorem c_sgn (l g : Bool) : AFunR Tryz.prog 178 [.b l, .b g] (fun r => r = .i (sgnB l g)) := by
  refine afun_body T_ok mixed Tryz.func178 rfl (ent_of Tryz.func178 rfl rfl) (Nat.le_of_ble_eq_true rfl) ?_
  repeat' (first | exact True.intro | apply And.intro | (intro h; exact Bool.noConfusion h) | exact ok_op (by kernel_rfl) | exact ok_tr (by kernel_rfl) | intro _ | apply fin_i | refine @Exists.intro Bool _ true ?_ | refine @Exists.intro Way _ .call ?_)
  all_goals (unfold sgnB; simp_all)
def vcmpR (a b : Vl) : Int :=
  if a.k ≠ b.k then sgnB (decide (a.k < b.k)) (decide (a.k > b.k)) else if a.i ≠ b.i then sgnB (decide (a.i < b.i)) (decide (a.i > b.i))
  else sgnB (Op.bytesLess a.t.toList b.t.toList) (!Op.bytesLess a.t.toList b.t.toList && !(a.t.toList == b.t.toList))
theorem c_rvcmp (a b : Vl) : AFunR Tryz.prog 147 [a.agg, b.agg] (fun r => r = .i (vcmpR a b)) := by
  obtain ⟨ak, ai, at'⟩ := a
  obtain ⟨bk, bi, bt⟩ := b
  refine afun_body T_ok mixed Tryz.func147 rfl (ent_of Tryz.func147 rfl rfl) (Nat.le_of_ble_eq_true rfl) ?_
  repeat' (first | exact True.intro | apply And.intro | (intro h; exact Bool.noConfusion h) | exact ok_op (by kernel_rfl) | exact ok_tr (by kernel_rfl) | intro _ | refine callR_of_fun (c_sgn _ _).afun rfl ?_ | apply fin_i | refine @Exists.intro Bool _ true ?_ | refine @Exists.intro Way _ .call ?_)
  all_goals (unfold vcmpR; simp_all)
def rcmpR : List Vl → List Vl → Int
  | [], [] => 0
  | [], _ :: _ => -1
  | _ :: _, [] => 1
  | x :: a, y :: b => if vcmpR x y ≠ 0 then vcmpR x y else rcmpR a b
theorem rcmpR_nil (b : List Vl) : rcmpR [] b = if b.length = 0 then 0 else -1 := by
  cases b <;> simp [rcmpR]
theorem rcmpR_cons_nil (x : Vl) (a b : List Vl) (h : b.length = 0) : rcmpR (x :: a) b = 1 := by
  cases b with
  | nil => rfl
  | cons y b => simp at h
set_option maxRecDepth 20000 in
theorem c_rcmp (a b : List Vl) (ha : a.length ≤ 9223372036854775807) (hb : b.length ≤ 9223372036854775807) : AFunR Tryz.prog 141 [vlA a, vlA b] (fun r => r = .i (rcmpR a b)) := by
  refine afun_body T_ok mixed Tryz.func141 rfl (ent_of Tryz.func141 rfl rfl) (Nat.le_of_ble_eq_true rfl) ?_
  have hla : (a.map Vl.row).length = a.length := List.length_map ..
  have hlb : (b.map Vl.row).length = b.length := List.length_map ..
  repeat' (first | exact True.intro | apply And.intro | (intro h; exact Bool.noConfusion h) | exact ok_op (by kernel_rfl) | exact ok_tr (by kernel_rfl) | intro _ | refine @Exists.intro Bool _ true ?_ | refine @Exists.intro Way _ .call ?_)
  refine ⟨fun m st => ∃ j : Nat, j ≤ a.length ∧ j ≤ b.length ∧ rcmpR (a.drop j) (b.drop j) = rcmpR a b ∧ m = a.length - j ∧ st = AS.on [(0, vlA a), (1, vlA b), (5, .i j)] [] 0 41 0 (fun _ => false), ⟨a.length, _, ⟨0, Nat.zero_le _, Nat.zero_le _, rfl, rfl, rfl⟩, ?_⟩, ?_⟩
  · refine weak_on rfl rfl rfl rfl ?_ ?_
    repeat' (first | exact True.intro | apply And.intro | (intro h; exact Bool.noConfusion h) | exact ok_op (by kernel_rfl) | exact ok_tr (by kernel_rfl) | intro _ | rfl | refine @Exists.intro Bool _ true ?_ | refine @Exists.intro Way _ .call ?_)
  · rintro m st ⟨j, hja, hjb, heq, rfl, rfl⟩
    by_cases hlt : j < a.length
    · obtain ⟨x, hx⟩ : ∃ x, a[j]? = some x := ⟨_, List.getElem?_eq_getElem hlt⟩
      have hrow := vlRow_get hx
      rw [drop_get hx] at heq
      by_cases hltb : j < b.length
      · obtain ⟨y, hy⟩ : ∃ y, b[j]? = some y := ⟨_, List.getElem?_eq_getElem hltb⟩
        have hrowb := vlRow_get hy
        rw [drop_get hy, rcmpR] at heq
        have hv := c_rvcmp x y
        generalize hc : vcmpR x y = c at hv heq
        obtain ⟨xk, xi, xt⟩ := x
        obtain ⟨yk, yi, yt⟩ := y
        repeat' (first | exact True.intro | apply And.intro | (intro h; exact Bool.noConfusion h) | exact ok_op (by kernel_rfl) | exact ok_tr (by kernel_rfl) | intro _ | refine Exists.intro _ (And.intro (Int.natCast_nonneg j) (And.intro hrow (And.intro rfl ?_))) | refine Exists.intro _ (And.intro (Int.natCast_nonneg j) (And.intro hrowb (And.intro rfl ?_))) | refine Exists.intro _ (And.intro hv.afun (And.intro rfl ?_)) | apply fin_i | rfl | refine @Exists.intro Bool _ true ?_ | refine @Exists.intro Way _ .call ?_)
        all_goals first
          | (exfalso; have := of_decide_eq_false ‹decide ((j : Int) < (a.map Vl.row).length) = false›; omega)
          | (exfalso; have := of_decide_eq_false ‹decide ((j : Int) < (b.map Vl.row).length) = false›; omega)
          | (exfalso; have := ‹decide ((j : Int) < (a.map Vl.row).length) = !true›; simp at this; omega)
          | (rw [if_pos (by simp_all)] at heq; exact heq)
          | skip
        refine ⟨a.length - (j + 1), _, by omega, ⟨j + 1, hlt, hltb, by rw [if_neg (by simp_all)] at heq; exact heq, rfl, rfl⟩, weak_on rfl rfl rfl rfl ?_ ?_⟩
        · repeat' (first | exact True.intro | apply And.intro | (intro h; exact Bool.noConfusion h) | exact ok_op (by kernel_rfl) | exact ok_tr (by kernel_rfl) | intro _ | rfl | (apply fin_i; rw [wrap_id] <;> omega) | refine @Exists.intro Bool _ true ?_ | refine @Exists.intro Way _ .call ?_)
        · repeat' (first | exact True.intro | apply And.intro | (intro h; exact Bool.noConfusion h) | exact ok_op (by kernel_rfl) | exact ok_tr (by kernel_rfl) | intro _ | rfl | refine Exists.intro _ (And.intro rfl ?_) | refine @Exists.intro Bool _ true ?_ | refine @Exists.intro Way _ .call ?_)
      · have hjbe : j = b.length := by omega
        rw [rcmpR_cons_nil _ _ _ (by rw [List.length_drop]; omega)] at heq
        repeat' (first | exact True.intro | apply And.intro | (intro h; exact Bool.noConfusion h) | exact ok_op (by kernel_rfl) | exact ok_tr (by kernel_rfl) | intro _ | apply fin_i | rfl | refine @Exists.intro Bool _ true ?_ | refine @Exists.intro Way _ .call ?_)
        all_goals first
          | (exfalso; have := of_decide_eq_true ‹decide ((j : Int) < (b.map Vl.row).length) = true›; omega)
          | (exfalso; have := of_decide_eq_true ‹decide (((a.map Vl.row).length : Int) < (b.map Vl.row).length) = true›; omega)
          | (exfalso; have := of_decide_eq_false ‹decide (((a.map Vl.row).length : Int) > (b.map Vl.row).length) = false›; omega)
          | exact heq
    · have hje : j = a.length := by omega
      rw [hje, List.drop_length, rcmpR_nil, List.length_drop] at heq
      repeat' (first | exact True.intro | apply And.intro | (intro h; exact Bool.noConfusion h) | exact ok_op (by kernel_rfl) | exact ok_tr (by kernel_rfl) | intro _ | apply fin_i | rfl | refine @Exists.intro Bool _ true ?_ | refine @Exists.intro Way _ .call ?_)
      all_goals first
        | (exfalso; have := of_decide_eq_true ‹decide ((j : Int) < (a.map Vl.row).length) = true›; omega)
        | (exfalso; have := of_decide_eq_true ‹decide (((a.map Vl.row).length : Int) > (b.map Vl.row).length) = true›; omega)
        | (rw [← heq, if_neg]; have := of_decide_eq_true ‹decide (((a.map Vl.row).length : Int) < (b.map Vl.row).length) = true›; omega)
        | (rw [← heq, if_pos]; have := of_decide_eq_false ‹decide (((a.map Vl.row).length : Int) < (b.map Vl.row).length) = false›; omega)
theorem c_requal (a b : List Vl) (ha : a.length ≤ 9223372036854775807) (hb : b.length ≤ 9223372036854775807) : AFunR Tryz.prog 91 [vlA a, vlA b] (fun r => r = .b (rcmpR a b == 0)) := by
  refine afun_body T_ok mixed Tryz.func91 rfl (ent_of Tryz.func91 rfl rfl) (Nat.le_of_ble_eq_true rfl) ?_
  repeat' (first | exact True.intro | apply And.intro | (intro h; exact Bool.noConfusion h) | exact ok_op (by kernel_rfl) | exact ok_tr (by kernel_rfl) | intro _ | refine callR_of_fun (c_rcmp a b ha hb).afun rfl ?_ | apply fin_b | refine @Exists.intro Bool _ true ?_ | refine @Exists.intro Way _ .call ?_)
  all_goals rfl

/-! both say zero of the same rows -/
theorem cmpI_zero (x y : Int) : cmpI x y = 0 ↔ x = y := by unfold cmpI; grind
theorem compareBytes_zero : ∀ a b : List UInt8, Go.Lib.compareBytes a b = 0 ↔ a = b
  | [], [] => by simp [Go.Lib.compareBytes]
  | [], _ :: _ => by simp [Go.Lib.compareBytes]
  | _ :: _, [] => by simp [Go.Lib.compareBytes]
  | x :: a, y :: b => by
    have ih := compareBytes_zero a b
    unfold Go.Lib.compareBytes
    by_cases h1 : x < y
    · have : x ≠ y := fun e => by subst e; exact UInt8.lt_irrefl _ h1
      simp [h1, this]
    · by_cases h2 : y < x
      · have : x ≠ y := fun e => by subst e; exact UInt8.lt_irrefl _ h2
        simp [h1, h2, this]
      · have : x = y := UInt8.le_antisymm (UInt8.not_lt.1 h2) (UInt8.not_lt.1 h1)
        simp [h1, h2, this, ih]
theorem bytesLess_zero : ∀ a b : List UInt8, sgnB (Op.bytesLess a b) (!Op.bytesLess a b && !(a == b)) = 0 ↔ a = b := by
  intro a b
  have irr : ∀ l : List UInt8, Op.bytesLess l l = false := by
    intro l
    induction l with
    | nil => rfl
    | cons x l ih => simp [Op.bytesLess, ih, UInt8.lt_irrefl]
  unfold sgnB
  by_cases h : a = b
  · subst h
    simp [irr]
  · cases h1 : Op.bytesLess a b <;> simp [h]
theorem vcmp_zero (a b : Vl) : vcmp a b = 0 ↔ a.k = b.k ∧ a.i = b.i ∧ a.t.toList = b.t.toList := by
  unfold vcmp cmpB
  rw [ByteArray.toList_eq, ByteArray.toList_eq, ← compareBytes_zero]
  have h1 := cmpI_zero a.k b.k
  have h2 := cmpI_zero a.i b.i
  generalize cmpI a.k b.k = x at h1 ⊢
  generalize cmpI a.i b.i = y at h2 ⊢
  generalize Go.Lib.compareBytes a.t.data.toList b.t.data.toList = z
  rw [← h1, ← h2]
  simp only [orL]
  clear h1 h2
  grind
theorem vcmpR_zero (a b : Vl) : vcmpR a b = 0 ↔ a.k = b.k ∧ a.i = b.i ∧ a.t.toList = b.t.toList := by
  unfold vcmpR
  by_cases h1 : a.k = b.k
  · rw [if_neg (by simp [h1])]
    by_cases h2 : a.i = b.i
    · rw [if_neg (by simp [h2]), bytesLess_zero]
      simp [h1, h2]
    · rw [if_pos h2]
      unfold sgnB
      grind
  · rw [if_pos h1]
    unfold sgnB
    grind
theorem rcmp_zero : ∀ a b : List Vl, rcmp a b = 0 ↔ rcmpR a b = 0
  | [], [] => by simp [rcmp, rcmpR]
  | [], _ :: _ => by simp [rcmp, rcmpR]
  | _ :: _, [] => by simp [rcmp, rcmpR]
  | x :: a, y :: b => by
    have ih := rcmp_zero a b
    have h : vcmp x y = 0 ↔ vcmpR x y = 0 := by rw [vcmp_zero, vcmpR_zero]
    unfold rcmp rcmpR
    by_cases h1 : vcmp x y = 0
    · have h2 := h.1 h1
      simp [h1, h2, ih]
    · have h2 : vcmpR x y ≠ 0 := fun e => h1 (h.2 e)
      simp [h1, h2]
theorem rcmp_eq0 (a b : List Vl) : (rcmp a b == 0) = (rcmpR a b == 0) := by
  rw [Bool.eq_iff_iff]
  simp [rcmp_zero]
end Go.Proofs.YtijjagkeaehhbaaGreat.Eng

/- What the key of a row, the kinds of paths and both Matches compute. Each function's arguments are its condition. -/
set_option linter.unusedSimpArgs false
set_option linter.unusedVariables false
namespace Go.Proofs.YtijjagkeaehhbaaGreat.Eng
open Go.RowKit (Below)

theorem meth_of {P : Program} {name : String} {t f : Nat} {ps : List PV} (hm : ∀ (w : World) (vs : Array Value), (method (P.types.size + Made.depth) t (.agg vs) name).run P w = .ok (f, .agg vs) w) : MethR P name (.pv (.ifa t ps)) f (.agg (pvs ps)) := by
  constructor
  intro w S σ n v hv
  obtain ⟨vs, rfl, hl⟩ := iface_at hv
  refine ⟨.agg vs, .one (.agg hl), fun args => ?_⟩
  have h0 : (#[Value.iface t (.agg vs)] ++ args)[0]? = some (.iface t (.agg vs)) := by rw [Array.getElem?_append_left (by simp)]; rfl
  have h1 : (#[Value.iface t (.agg vs)] ++ args).extract 1 (#[Value.iface t (.agg vs)] ++ args).size = args := by
    apply Array.ext'
    simp
  have hp : (program).run P w = .ok P w := rfl
  simp only [invoke, h0, callMethod, h1, Sem.run_bind, hp, Result.andThen_ok, hm]
theorem m_scan {ps : List PV} : MethR Tryz.prog "bitemporal/access.has" (.pv (.ifa 125 ps)) 241 (.agg (pvs ps)) := meth_of fun _ _ => by kernel_rfl
theorem m_keyed {ps : List PV} : MethR Tryz.prog "bitemporal/access.has" (.pv (.ifa 115 ps)) 231 (.agg (pvs ps)) := meth_of fun _ _ => by kernel_rfl
theorem m_valid {ps : List PV} : MethR Tryz.prog "bitemporal/access.has" (.pv (.ifa 110 ps)) 218 (.agg (pvs ps)) := meth_of fun _ _ => by kernel_rfl
theorem m_rect {ps : List PV} : MethR Tryz.prog "bitemporal/access.has" (.pv (.ifa 113 ps)) 223 (.agg (pvs ps)) := meth_of fun _ _ => by kernel_rfl

def overB (a b c d : Int) : Bool := validB a b && validB c d && decide (a < d) && decide (c < b)
theorem c_overlaps (a b c d : Int) : AFunR Tryz.prog 220 [per a b, per c d] (fun r => r = .b (overB a b c d)) := by
  refine afun_body T_ok mixed Tryz.func220 rfl (ent_of Tryz.func220 rfl rfl) (Nat.le_of_ble_eq_true rfl) ?_
  repeat' (first | exact True.intro | apply And.intro | (intro h; exact Bool.noConfusion h) | exact ok_op (by kernel_rfl) | exact ok_tr (by kernel_rfl) | intro _ | refine callR_of_fun (c_valid _ _).afun rfl ?_ | apply fin_b | refine @Exists.intro Bool _ true ?_ | refine @Exists.intro Way _ .call ?_)
  all_goals (unfold overB; grind)
theorem c_rvalid (x y : Int) : AFunR Tryz.prog 22 [per x y] (fun r => r = .b (validB x y)) := by
  refine afun_body T_ok mixed Tryz.func22 rfl (ent_of Tryz.func22 rfl rfl) (Nat.le_of_ble_eq_true rfl) ?_
  repeat' (first | exact True.intro | apply And.intro | (intro h; exact Bool.noConfusion h) | exact ok_op (by kernel_rfl) | exact ok_tr (by kernel_rfl) | intro _ | apply fin_b | refine @Exists.intro Bool _ true ?_ | refine @Exists.intro Way _ .call ?_)
  all_goals (unfold validB; grind)
theorem c_roverlaps (a b c d : Int) : AFunR Tryz.prog 10 [per a b, per c d] (fun r => r = .b (overB a b c d)) := by
  refine afun_body T_ok mixed Tryz.func10 rfl (ent_of Tryz.func10 rfl rfl) (Nat.le_of_ble_eq_true rfl) ?_
  repeat' (first | exact True.intro | apply And.intro | (intro h; exact Bool.noConfusion h) | exact ok_op (by kernel_rfl) | exact ok_tr (by kernel_rfl) | intro _ | refine callR_of_fun (c_rvalid _ _).afun rfl ?_ | apply fin_b | refine @Exists.intro Bool _ true ?_ | refine @Exists.intro Way _ .call ?_)
  all_goals (unfold overB; grind)

def nullV : Vl := ⟨0, 0, ⟨#[]⟩⟩
theorem c_null : AFunR Tryz.prog 163 [] (fun r => r = nullV.agg) := by
  refine afun_body T_ok mixed Tryz.func163 rfl (ent_of Tryz.func163 rfl rfl) (Nat.le_of_ble_eq_true rfl) ?_
  repeat' (first | exact True.intro | apply And.intro | (intro h; exact Bool.noConfusion h) | exact ok_op (by kernel_rfl) | exact ok_tr (by kernel_rfl) | intro _ | rfl | refine @Exists.intro Bool _ true ?_ | refine @Exists.intro Way _ .call ?_)
theorem c_rnull : AFunR Tryz.prog 57 [] (fun r => r = nullV.agg) := by
  refine afun_body T_ok mixed Tryz.func57 rfl (ent_of Tryz.func57 rfl rfl) (Nat.le_of_ble_eq_true rfl) ?_
  repeat' (first | exact True.intro | apply And.intro | (intro h; exact Bool.noConfusion h) | exact ok_op (by kernel_rfl) | exact ok_tr (by kernel_rfl) | intro _ | rfl | refine @Exists.intro Bool _ true ?_ | refine @Exists.intro Way _ .call ?_)
def pickV (row : List Vl) (k : Int) : Vl := if k < 0 then nullV else match row[k.toNat]? with | some v => v | none => nullV
theorem pick_cases (row : List Vl) (k : Int) : ((decide (k < 0) || decide (k ≥ (row.map Vl.row).length)) = true ∧ pickV row k = nullV) ∨ (¬ k < 0 ∧ ¬ k ≥ (row.map Vl.row).length ∧ 0 ≤ k ∧ ∃ v, (row.map Vl.row)[k.toNat]? = some (Vl.row v) ∧ pickV row k = v) := by
  by_cases h : k < 0
  · exact .inl ⟨by simp [h], by simp [pickV, h]⟩
  · by_cases h2 : k ≥ (row.map Vl.row).length
    · refine .inl ⟨by rw [Bool.or_eq_true, decide_eq_true_eq, decide_eq_true_eq]; exact .inr h2, ?_⟩
      rw [List.length_map] at h2
      rw [pickV, if_neg h, List.getElem?_eq_none (by omega)]
    · right
      rw [List.length_map] at h2
      have hlt : k.toNat < row.length := by omega
      refine ⟨h, by simpa using h2, by omega, row[k.toNat], by rw [List.getElem?_map, List.getElem?_eq_getElem hlt]; rfl, ?_⟩
      rw [pickV, if_neg h, List.getElem?_eq_getElem hlt]
theorem c_at (row : List Vl) (k : Int) : AFunR Tryz.prog 133 [vlA row, .i k] (fun r => r = (pickV row k).agg) := by
  refine afun_body T_ok mixed Tryz.func133 rfl (ent_of Tryz.func133 rfl rfl) (Nat.le_of_ble_eq_true rfl) ?_
  rcases pick_cases row k with ⟨h1, h2⟩ | ⟨h1, h1', h2, v, h3, h4⟩
  · rw [h2]
    repeat' (first | exact True.intro | apply And.intro | (intro h; exact Bool.noConfusion h) | exact ok_op (by kernel_rfl) | exact ok_tr (by kernel_rfl) | intro _ | refine callR_of_fun c_null.afun rfl ?_ | exact rfl | refine @Exists.intro Bool _ true ?_ | refine @Exists.intro Way _ .call ?_)
    all_goals (exfalso; first | (simp_all; done) | (simp_all; omega))
  · rw [h4]
    repeat' (first | exact True.intro | apply And.intro | (intro h; exact Bool.noConfusion h) | exact ok_op (by kernel_rfl) | exact ok_tr (by kernel_rfl) | intro _ | refine callR_of_fun c_null.afun rfl ?_ | refine Exists.intro _ (And.intro h2 (And.intro h3 (And.intro rfl ?_))) | exact rfl | refine @Exists.intro Bool _ true ?_ | refine @Exists.intro Way _ .call ?_)
    all_goals (exfalso; first | (simp_all; done) | (simp_all; omega))
theorem c_rat (row : List Vl) (k : Int) : AFunR Tryz.prog 102 [vlA row, .i k] (fun r => r = (pickV row k).agg) := by
  refine afun_body T_ok mixed Tryz.func102 rfl (ent_of Tryz.func102 rfl rfl) (Nat.le_of_ble_eq_true rfl) ?_
  rcases pick_cases row k with ⟨h1, h2⟩ | ⟨h1, h1', h2, v, h3, h4⟩
  · rw [h2]
    repeat' (first | exact True.intro | apply And.intro | (intro h; exact Bool.noConfusion h) | exact ok_op (by kernel_rfl) | exact ok_tr (by kernel_rfl) | intro _ | refine callR_of_fun c_rnull.afun rfl ?_ | exact rfl | refine @Exists.intro Bool _ true ?_ | refine @Exists.intro Way _ .call ?_)
    all_goals (exfalso; first | (simp_all; done) | (simp_all; omega))
  · rw [h4]
    repeat' (first | exact True.intro | apply And.intro | (intro h; exact Bool.noConfusion h) | exact ok_op (by kernel_rfl) | exact ok_tr (by kernel_rfl) | intro _ | refine callR_of_fun c_rnull.afun rfl ?_ | refine Exists.intro _ (And.intro h2 (And.intro h3 (And.intro rfl ?_))) | exact rfl | refine @Exists.intro Bool _ true ?_ | refine @Exists.intro Way _ .call ?_)
    all_goals (exfalso; first | (simp_all; done) | (simp_all; omega))
def keyV (row : List Vl) (ks : List Int) : List Vl := ks.map (pickV row)
theorem c_pick (row : List Vl) (ks : List Int) (hk : ks.length ≤ 1099511627776) : AFunR Tryz.prog 81 [vlA row, .pv (.vs 1 (keyRows ks))] (fun r => r = vlA (keyV row ks)) := by
  have hklen : (keyRows ks).length = ks.length := List.length_map ..
  refine afun_body T_ok mixed Tryz.func81 rfl (ent_of Tryz.func81 rfl rfl) (Nat.le_of_ble_eq_true rfl) ?_
  repeat' (first | exact True.intro | apply And.intro | (intro h; exact Bool.noConfusion h) | exact ok_op (by kernel_rfl) | exact ok_tr (by kernel_rfl) | intro _ | rfl | exact Int.natCast_nonneg _ | (simp only [ti29, Int.toNat_natCast]; omega) | (rw [Int.toNat_natCast]; omega) | refine @Exists.intro Bool _ true ?_ | refine @Exists.intro Way _ .call ?_)
  refine ⟨fun m st => ∃ (j : Nat) (out : List (List PV)), j ≤ ks.length ∧ out = (keyV row (ks.take j)).map Vl.row ∧ m = ks.length - j ∧ st = AS.on [(0, vlA row), (5, .lv (.sl 0)), (11, .pv (.vs 1 (keyRows ks))), (12, .i (keyRows ks).length), (13, .i j)] [(0, .row 29 3 out)] 1 25 0 (fun _ => false), ⟨ks.length, _, ⟨0, [], Nat.zero_le _, rfl, rfl, rfl⟩, ?_⟩, ?_⟩
  · refine weak_on rfl rfl rfl rfl ?_ ?_
    · repeat' (first | exact True.intro | apply And.intro | (intro h; exact Bool.noConfusion h) | exact ok_op (by kernel_rfl) | exact ok_tr (by kernel_rfl) | intro _ | rfl | refine @Exists.intro Bool _ true ?_ | refine @Exists.intro Way _ .call ?_)
    · repeat' (first | exact True.intro | apply And.intro | (intro h; exact Bool.noConfusion h) | exact ok_op (by kernel_rfl) | exact ok_tr (by kernel_rfl) | intro _ | rfl | refine Exists.intro _ (And.intro rfl ?_) | refine @Exists.intro Bool _ true ?_ | refine @Exists.intro Way _ .call ?_)
  · rintro m st ⟨j, out, hj, hout, rfl, rfl⟩
    by_cases hlt : j < ks.length
    · obtain ⟨k, hk1⟩ : ∃ k, ks[j]? = some k := ⟨_, List.getElem?_eq_getElem hlt⟩
      have hrow := keyRow_get hk1
      have hat := c_at row k
      have hlen : out.length = j := by rw [hout, List.length_map, keyV, List.length_map, List.length_take]; omega
      have hnext : out ++ [(pickV row k).row] = (keyV row (ks.take (j + 1))).map Vl.row := by
        rw [List.take_add_one, hk1, hout]
        simp [keyV]
      generalize pickV row k = v at hat hnext
      obtain ⟨vk, vi, vt⟩ := v
      repeat' (first | exact True.intro | apply And.intro | (intro h; exact Bool.noConfusion h) | exact ok_op (by kernel_rfl) | exact ok_tr (by kernel_rfl) | intro _ | refine Exists.intro _ (And.intro (Int.natCast_nonneg j) (And.intro hrow (And.intro rfl ?_))) | refine callR_of_fun hat.afun rfl ?_ | refine @Exists.intro Bool _ false ?_ | rfl | (simp only [chunk, List.length_cons, List.length_nil, ti29]; omega) | refine @Exists.intro Bool _ true ?_ | refine @Exists.intro Way _ .call ?_)
      all_goals first
        | (exfalso; have := of_decide_eq_false ‹decide ((j : Int) < (keyRows ks).length) = false›; omega)
        | skip
      refine ⟨ks.length - (j + 1), _, by omega, ⟨j + 1, _, hlt, hnext, rfl, rfl⟩, ?_⟩
      refine weak_on rfl rfl rfl rfl ?_ ?_
      · repeat' (first | exact True.intro | apply And.intro | (intro h; exact Bool.noConfusion h) | exact ok_op (by kernel_rfl) | exact ok_tr (by kernel_rfl) | intro _ | rfl | (apply fin_i; rw [wrap_id] <;> omega) | refine @Exists.intro Bool _ true ?_ | refine @Exists.intro Way _ .call ?_)
      · repeat' (first | exact True.intro | apply And.intro | (intro h; exact Bool.noConfusion h) | exact ok_op (by kernel_rfl) | exact ok_tr (by kernel_rfl) | intro _ | rfl | refine Exists.intro _ (And.intro rfl ?_) | refine @Exists.intro Bool _ true ?_ | refine @Exists.intro Way _ .call ?_)
    · have hje : j = ks.length := by omega
      subst hje
      rw [List.take_length] at hout
      subst hout
      repeat' (first | exact True.intro | apply And.intro | (intro h; exact Bool.noConfusion h) | exact ok_op (by kernel_rfl) | exact ok_tr (by kernel_rfl) | intro _ | exact rfl | refine @Exists.intro Bool _ true ?_ | refine @Exists.intro Way _ .call ?_)
      all_goals (exfalso; have := of_decide_eq_true ‹decide ((ks.length : Int) < (keyRows ks).length) = true›; omega)
end Go.Proofs.YtijjagkeaehhbaaGreat.Eng

/- The engine: tests and blocks, piece by piece. -/
set_option linter.unusedSimpArgs false
set_option linter.unusedVariables false
namespace Go.Proofs.YtijjagkeaehhbaaGreat.Eng

theorem sem_cond {P : Program} {c : Operand} {x y : Code} {s : AS} {K : Exit → AS → Prop} {t : Bool} (hc : s.ev c = .pv (.bool t)) (h1 : t = true → Wlk P x s K) (h2 : t = false → Wlk P y s K) : Wlk P (.cond c x y) s K := by
  refine ⟨fun C a w hst => ?_⟩
  obtain ⟨S, σ, hs⟩ := id hst
  have := hs.ev c
  rw [hc] at this
  exact wp_cond_split this.bool_inv (fun ht => (h1 ht).run C a w hst) (fun ht => (h2 ht).run C a w hst)
theorem sem_block {P : Program} {id : Nat} {c : Code} {s : AS} {K : Exit → AS → Prop} (h : Wlk P c s fun e s' => match e with | .exit i => (match Nat.beq i id with | true => K .normal s' | false => K (.exit i) s') | e => K e s') : Wlk P (.block id c) s K := by
  refine ⟨fun C a w hst => wp_block (wp_mono (h.run C a w hst) ?_)⟩
  rintro e a' w' ⟨s', h1, h2⟩
  cases e with
  | exit i =>
    simp only [Exit.inBlock]
    split
    · rename_i hi
      subst hi
      simp only [Nat.beq_refl] at h1
      exact ⟨s', h1, h2⟩
    · rename_i hi
      simp only [beq_ne hi] at h1
      exact ⟨s', h1, h2⟩
  | _ => exact ⟨s', h1, h2⟩
/-- A part whose ends are told apart from what follows. -/
theorem sem_mono {P : Program} {c : Code} {s : AS} {K K' : Exit → AS → Prop} (h : Wlk P c s K) (hk : ∀ e s', K e s' → K' e s') : Wlk P c s K' := ⟨fun C a w hst => wp_mono (h.run C a w hst) fun e a' w' ⟨s', h1, h2⟩ => ⟨s', hk e s' h1, h2⟩⟩

open Go.RowKit (Below)
/-- A call of a function of which only this is known: what its result is like. -/
theorem callR_of_funR {P : Program} {g : Nat} {args : List AV} {Q : AV → Prop} (h : AFunR P g args Q) (hp : aids args = []) {s : AS} {R : AV → AS → Prop} (hR : ∀ r, Q r → R r s) : CallR P g args s R := by
  refine ⟨h.1, fun C S σ a w hs vs hn hv => ?_⟩
  refine (h.2 w S hs.lt vs hn (fun i x hi => ?_)).mono ?_
  · obtain ⟨v, h1, h2⟩ := hv i x hi
    exact ⟨v, h1, h2.away (fun _ _ => rfl) (fun _ h => h) fun k hm => by have := mem_aids hi hm; rw [hp] at this; cases this⟩
  · rintro e w' ⟨v, r, hq, rfl, hb, hav⟩
    refine ⟨v, r, s, _, σ, hR r hq, rfl, ?_, hs.grow hb⟩
    refine hav.away (fun _ _ => rfl) (fun _ h => h) fun k hm => ?_
    exact absurd (ids_lt hav k hm) (Nat.not_lt_zero _)

/-- A row of one's own that is only read from now on. -/
def AS.frz (s : AS) (d id sz : Nat) (rows : List (List PV)) : AS := { s with fr := fun i => bif Nat.beq i d then .pv (.vs sz rows) else s.fr i, hp := fun j => bif Nat.beq j id then none else s.hp j }
theorem weak_frz {s : AS} {d id t sz : Nat} {rows : List (List PV)} (h : s.fr d = .lv (.sl id)) (ho : s.hp id = some (.row t sz rows)) : Weak s (s.frz d id sz rows) := by
  rintro C a w ⟨S, σ, hs⟩
  have other : ∀ j o, (s.frz d id sz rows).hp j = some o → j ≠ id ∧ s.hp j = some o := by
    intro j o hj
    simp only [AS.frz] at hj
    cases hb : Nat.beq j id with
    | true => rw [hb] at hj; cases hj
    | false =>
      rw [hb] at hj
      exact ⟨fun e => (by subst e; rw [Nat.beq_refl] at hb; cases hb), hj⟩
  refine ⟨fun b => S b ∨ blk (σ id) = some b, σ, ⟨hs.size, hs.defers, fun i => ?_, ⟨fun j o hj => hs.hp.lt j o (other j o hj).2, fun j o hj => ?_, fun j o b hj hb => ?_, fun j o b hj hb => hs.hp.own j o b (other j o hj).2 hb, fun j j' o o' b hj hj' hb hb' => hs.hp.inj j j' o o' b (other j o hj).2 (other j' o' hj').2 hb hb'⟩, fun b hb => ?_, fun b hb => .inl (hs.le b hb), hs.keep, hs.nx, hs.hs, fun b hb => ?_⟩⟩
  · simp only [AS.frz]
    cases hb : Nat.beq i d with
    | true =>
      rw [cond_true]
      have hi := Nat.eq_of_beq_eq_true hb
      subst hi
      have hv := hs.fr i
      rw [h] at hv
      generalize a.tmps.getD i undef = v at hv
      cases hv with
      | one hv => cases hv with
        | lf hv => cases hv with
          | sl _ _ => exact .one (.lf (.pv (objR_pv (hs.hp.obj id _ ho) (fun _ h => .inl h) fun b hb => .inr hb)))
    | false =>
      rw [cond_false]
      exact (hs.fr i).mono (fun _ _ => rfl) (fun _ h => .inl h) (fun _ _ => rfl) (Nat.le_refl _)
  · obtain ⟨_, h2⟩ := other j o hj
    exact (hs.hp.obj j o h2).mono (fun _ _ => rfl) (fun _ h => .inl h) (fun _ _ => rfl) (Nat.le_refl _) (hs.hp.lt j o h2) (fun b _ => rfl)
  · obtain ⟨h1, h2⟩ := other j o hj
    rintro (h3 | h3)
    · exact hs.hp.notS j o b h2 hb h3
    · exact h1 (hs.hp.inj j id o _ b h2 ho hb h3)
  · rcases hb with h3 | h3
    · exact hs.lt b h3
    · exact blk_lt (hs.hp.obj id _ ho) h3
  · rcases hb with h3 | h3
    · exact hs.up b h3
    · rcases hs.hp.own id _ b ho h3 with h4 | h4
      · exact .inr (.inr h4)
      · exact .inr (.inl h4)
end Go.Proofs.YtijjagkeaehhbaaGreat.Eng

/- What the reference's tests of values and of expressions compute. Each function's arguments are its condition. -/
set_option linter.unusedSimpArgs false
set_option linter.unusedVariables false
namespace Go.Proofs.YtijjagkeaehhbaaGreat.Eng
open Go.RowKit (Below)

theorem c_rprintable (t : ByteArray) (ht : t.size ≤ 200) : AFunR Tryz.prog 145 [.pv (.str t)] (fun r => r = .b (printB t)) := by
  refine afun_body T_ok mixed Tryz.func145 rfl (ent_of Tryz.func145 rfl rfl) (Nat.le_of_ble_eq_true rfl) ?_
  repeat' (first | exact True.intro | apply And.intro | (intro h; exact Bool.noConfusion h) | exact ok_op (by kernel_rfl) | exact ok_tr (by kernel_rfl) | intro _ | refine @Exists.intro Bool _ true ?_ | refine @Exists.intro Way _ .call ?_)
  refine ⟨fun m s => ∃ j : Nat, j ≤ t.size ∧ (∀ i, i < j → byteOk t i = true) ∧ m = t.size - j ∧ s = AS.on [(0, .pv (.str t)), (3, .i j)] [] 0 20 0 (fun _ => false), ⟨t.size, _, ⟨0, Nat.zero_le _, fun i hi => absurd hi (Nat.not_lt_zero _), rfl, rfl⟩, ?_⟩, ?_⟩
  · refine weak_on rfl rfl rfl rfl ?_ ?_
    repeat' (first | exact True.intro | apply And.intro | (intro h; exact Bool.noConfusion h) | exact ok_op (by kernel_rfl) | exact ok_tr (by kernel_rfl) | intro _ | rfl | refine @Exists.intro Bool _ true ?_ | refine @Exists.intro Way _ .call ?_)
  · rintro m s ⟨j, hj, hall, rfl, rfl⟩
    by_cases hlt : j < t.size
    · obtain ⟨c, hc⟩ : ∃ c, t[j]? = some c := by
        cases h : t[j]? with
        | some c => exact ⟨c, rfl⟩
        | none => rw [getElem?_pos t j hlt] at h; cases h
      have hc' : t[((j : Nat) : Int).toNat]? = some c := hc
      have hb : byteOk t j = !(decide ((c.toNat : Int) < 32) || decide ((c.toNat : Int) > 126)) := by unfold byteOk; rw [hc]
      repeat' (first | exact True.intro | apply And.intro | (intro h; exact Bool.noConfusion h) | exact ok_op (by kernel_rfl) | exact ok_tr (by kernel_rfl) | intro _ | refine Exists.intro c (And.intro (Int.natCast_nonneg j) (And.intro hc' ?_)) | apply fin_b | rfl | refine @Exists.intro Bool _ true ?_ | refine @Exists.intro Way _ .call ?_)
      all_goals first
        | (exfalso; have := of_decide_eq_false ‹decide ((j : Int) < t.size) = false›; omega)
        | (refine ⟨t.size - (j + 1), _, by omega, ⟨j + 1, hlt, fun i hi => ?_, rfl, rfl⟩, weak_on rfl rfl rfl rfl ?_ ?_⟩
           · rcases Nat.lt_succ_iff_lt_or_eq.1 hi with h | h
             · exact hall i h
             · subst h; rw [hb]; simp_all
           · repeat' (first | exact True.intro | apply And.intro | (intro h; exact Bool.noConfusion h) | exact ok_op (by kernel_rfl) | exact ok_tr (by kernel_rfl) | intro _ | rfl | (apply fin_i; rw [wrap_id] <;> omega) | refine @Exists.intro Bool _ true ?_ | refine @Exists.intro Way _ .call ?_)
           · repeat' (first | exact True.intro | apply And.intro | (intro h; exact Bool.noConfusion h) | exact ok_op (by kernel_rfl) | exact ok_tr (by kernel_rfl) | intro _ | rfl | refine @Exists.intro Bool _ true ?_ | refine @Exists.intro Way _ .call ?_))
        | (symm; apply printB_no hlt; rw [hb]; simp_all)
    · have hj' : j = t.size := by omega
      subst hj'
      repeat' (first | exact True.intro | apply And.intro | (intro h; exact Bool.noConfusion h) | exact ok_op (by kernel_rfl) | exact ok_tr (by kernel_rfl) | intro _ | apply fin_b | refine @Exists.intro Bool _ true ?_ | refine @Exists.intro Way _ .call ?_)
      all_goals first
        | (exfalso; have := of_decide_eq_true ‹decide ((t.size : Int) < t.size) = true›; omega)
        | (symm; unfold printB; rw [List.all_eq_true]; intro i hi; exact hall i (List.mem_range.1 hi))
theorem c_rvvalid (k i : Int) (t : ByteArray) : AFunR Tryz.prog 101 [valA k i t] (fun r => r = .b (validV k i t)) := by
  refine afun_body T_ok mixed Tryz.func101 rfl (ent_of Tryz.func101 rfl rfl) (Nat.le_of_ble_eq_true rfl) ?_
  repeat' (first | exact True.intro | apply And.intro | (intro h; exact Bool.noConfusion h) | exact ok_op (by kernel_rfl) | exact ok_tr (by kernel_rfl) | intro _ | refine callR_of_fun (c_rprintable t (by have := of_decide_eq_true ‹decide ((t.size : Int) ≤ 200) = true›; omega)).afun rfl ?_ | apply fin_b | refine @Exists.intro Bool _ true ?_ | refine @Exists.intro Way _ .call ?_)
  all_goals (unfold validV emptyB; grind)

def arLow (op : Int) : Int :=
  if op = 1 ∨ op = 2 then 0 else if op = 4 ∨ op = 18 ∨ op = 20 ∨ op = 21 then 1 else if op = 5 ∨ op = 6 then 2
  else if op = 7 ∨ op = 8 ∨ op = 9 ∨ op = 10 ∨ op = 11 ∨ op = 12 ∨ op = 13 ∨ op = 14 ∨ op = 15 ∨ op = 16 ∨ op = 17 ∨ op = 19 then 2
  else if op = 22 then 3 else if op = 23 then 1 else if op = 24 then 4 else -1
def arHigh (op : Int) : Int :=
  if op = 1 ∨ op = 2 then 0 else if op = 4 ∨ op = 18 ∨ op = 20 ∨ op = 21 then 1 else if op = 5 ∨ op = 6 then 1099511627776
  else if op = 7 ∨ op = 8 ∨ op = 9 ∨ op = 10 ∨ op = 11 ∨ op = 12 ∨ op = 13 ∨ op = 14 ∨ op = 15 ∨ op = 16 ∨ op = 17 ∨ op = 19 then 2
  else if op = 22 then 3 else if op = 23 then 1099511627776 else if op = 24 then 4 else 0
theorem ar_eq {op a b : Int} (h1 : arLow op = a) (h2 : arHigh op = b) : AV.tup [.lf (li a), .lf (li b)] = .tup [.lf (li (arLow op)), .lf (li (arHigh op))] := by rw [h1, h2]
theorem c_arity (op : Int) : AFunR Tryz.prog 94 [.i op] (fun r => r = .tup [.lf (li (arLow op)), .lf (li (arHigh op))]) := by
  refine afun_sem T_ok Tryz.func94 rfl (ent_of Tryz.func94 rfl rfl) (Nat.le_of_ble_eq_true rfl) ?_
  refine sem_seq (fun s1 => s1 = AS.on [(0, .i op), (2, .i 0), (3, .i 0)] [] 0 35 0 (fun _ => false)) (sem_vc T_ok mixed ?_) ?_
  · repeat' (first | exact True.intro | apply And.intro | (intro h; exact Bool.noConfusion h) | exact ok_op (by kernel_rfl) | exact ok_tr (by kernel_rfl) | intro _ | refine weak_is (weak_on rfl rfl rfl rfl ?_ ?_) rfl | rfl | refine @Exists.intro Bool _ true ?_ | refine @Exists.intro Way _ .call ?_)
  rintro _ rfl
  refine sem_seq (fun s1 => arLow op = -1 ∧ arHigh op = 0 ∧ s1 = AS.on [] [] 0 35 0 (fun _ => false)) ?_ ?_
  case refine_2 =>
    rintro _ ⟨hl, hh, rfl⟩
    refine sem_vc T_ok mixed ?_
    repeat' (first | exact True.intro | apply And.intro | (intro h; exact Bool.noConfusion h) | exact ok_op (by kernel_rfl) | exact ok_tr (by kernel_rfl) | intro _ | refine fin_to (y := .tup [.lf (li _), .lf (li _)]) rfl ?_ | refine @Exists.intro Bool _ true ?_ | refine @Exists.intro Way _ .call ?_)
    exact ⟨ar_eq hl hh⟩
  refine sem_seq (fun s1 => s1 = AS.on [(2, .i 0), (3, .i 0), (4, .i op)] [] 0 35 0 (fun _ => false)) (sem_vc T_ok mixed ?_) ?_
  · repeat' (first | exact True.intro | apply And.intro | (intro h; exact Bool.noConfusion h) | exact ok_op (by kernel_rfl) | exact ok_tr (by kernel_rfl) | intro _ | refine weak_is (weak_on rfl rfl rfl rfl ?_ ?_) rfl | rfl | refine @Exists.intro Bool _ true ?_ | refine @Exists.intro Way _ .call ?_)
  rintro _ rfl
  refine sem_block ?_
  refine sem_seq (fun s1 => s1 = AS.on [(2, .i 0), (3, .i 0), (4, .i op), (5, .b (op == 1 || op == 2))] [] 0 35 0 (fun _ => false)) (sem_vc T_ok mixed ?_) ?_
  · repeat' (first | exact True.intro | apply And.intro | (intro h; exact Bool.noConfusion h) | exact ok_op (by kernel_rfl) | exact ok_tr (by kernel_rfl) | intro _ | refine weak_is (weak_on rfl rfl rfl rfl ?_ ?_) rfl | rfl | apply fin_b | refine @Exists.intro Bool _ true ?_ | refine @Exists.intro Way _ .call ?_)
    all_goals first
      | rfl
      | simp_all
  rintro _ rfl
  refine sem_cond rfl (fun h => sem_vc T_ok mixed ?_) fun h5 => ?_
  · simp only [Bool.or_eq_true, beq_iff_eq] at h
    repeat' (first | exact True.intro | apply And.intro | (intro h; exact Bool.noConfusion h) | exact ok_op (by kernel_rfl) | exact ok_tr (by kernel_rfl) | intro _ | refine fin_to (y := .tup [.lf (li _), .lf (li _)]) rfl ?_ | refine @Exists.intro Bool _ true ?_ | refine @Exists.intro Way _ .call ?_)
    exact ⟨ar_eq (by unfold arLow; omega) (by unfold arHigh; omega)⟩
  simp only [Bool.or_eq_false_iff, beq_eq_false_iff_ne, ne_eq] at h5
  refine sem_seq (fun s1 => s1 = AS.on [(2, .i 0), (3, .i 0), (4, .i op), (8, .b (op == 4 || op == 18 || op == 20 || op == 21))] [] 0 35 0 (fun _ => false)) (sem_vc T_ok mixed ?_) ?_
  · repeat' (first | exact True.intro | apply And.intro | (intro h; exact Bool.noConfusion h) | exact ok_op (by kernel_rfl) | exact ok_tr (by kernel_rfl) | intro _ | refine weak_is (weak_on rfl rfl rfl rfl ?_ ?_) rfl | rfl | apply fin_b | refine @Exists.intro Bool _ true ?_ | refine @Exists.intro Way _ .call ?_)
    all_goals first
      | rfl
      | simp_all
  rintro _ rfl
  refine sem_cond rfl (fun h => sem_vc T_ok mixed ?_) fun h8 => ?_
  · simp only [Bool.or_eq_true, beq_iff_eq] at h
    repeat' (first | exact True.intro | apply And.intro | (intro h; exact Bool.noConfusion h) | exact ok_op (by kernel_rfl) | exact ok_tr (by kernel_rfl) | intro _ | refine fin_to (y := .tup [.lf (li _), .lf (li _)]) rfl ?_ | refine @Exists.intro Bool _ true ?_ | refine @Exists.intro Way _ .call ?_)
    exact ⟨ar_eq (by unfold arLow; omega) (by unfold arHigh; omega)⟩
  simp only [Bool.or_eq_false_iff, beq_eq_false_iff_ne, ne_eq] at h8
  refine sem_seq (fun s1 => s1 = AS.on [(2, .i 0), (3, .i 0), (4, .i op), (13, .b (op == 5 || op == 6))] [] 0 35 0 (fun _ => false)) (sem_vc T_ok mixed ?_) ?_
  · repeat' (first | exact True.intro | apply And.intro | (intro h; exact Bool.noConfusion h) | exact ok_op (by kernel_rfl) | exact ok_tr (by kernel_rfl) | intro _ | refine weak_is (weak_on rfl rfl rfl rfl ?_ ?_) rfl | rfl | apply fin_b | refine @Exists.intro Bool _ true ?_ | refine @Exists.intro Way _ .call ?_)
    all_goals first
      | rfl
      | simp_all
  rintro _ rfl
  refine sem_cond rfl (fun h => sem_vc T_ok mixed ?_) fun h13 => ?_
  · simp only [Bool.or_eq_true, beq_iff_eq] at h
    repeat' (first | exact True.intro | apply And.intro | (intro h; exact Bool.noConfusion h) | exact ok_op (by kernel_rfl) | exact ok_tr (by kernel_rfl) | intro _ | refine fin_to (y := .tup [.lf (li _), .lf (li _)]) rfl ?_ | refine @Exists.intro Bool _ true ?_ | refine @Exists.intro Way _ .call ?_)
    exact ⟨ar_eq (by unfold arLow; omega) (by unfold arHigh; omega)⟩
  simp only [Bool.or_eq_false_iff, beq_eq_false_iff_ne, ne_eq] at h13
  refine sem_seq (fun s1 => s1 = AS.on [(2, .i 0), (3, .i 0), (4, .i op), (16, .b (op == 7 || op == 8 || op == 9 || op == 10 || op == 11 || op == 12 || op == 13 || op == 14 || op == 15 || op == 16 || op == 17 || op == 19))] [] 0 35 0 (fun _ => false)) (sem_vc T_ok mixed ?_) ?_
  · repeat' (first | exact True.intro | apply And.intro | (intro h; exact Bool.noConfusion h) | exact ok_op (by kernel_rfl) | exact ok_tr (by kernel_rfl) | intro _ | refine weak_is (weak_on rfl rfl rfl rfl ?_ ?_) rfl | rfl | apply fin_b | refine @Exists.intro Bool _ true ?_ | refine @Exists.intro Way _ .call ?_)
    all_goals first
      | rfl
      | simp_all
  rintro _ rfl
  refine sem_cond rfl (fun h => sem_vc T_ok mixed ?_) fun h16 => ?_
  · simp only [Bool.or_eq_true, beq_iff_eq] at h
    repeat' (first | exact True.intro | apply And.intro | (intro h; exact Bool.noConfusion h) | exact ok_op (by kernel_rfl) | exact ok_tr (by kernel_rfl) | intro _ | refine fin_to (y := .tup [.lf (li _), .lf (li _)]) rfl ?_ | refine @Exists.intro Bool _ true ?_ | refine @Exists.intro Way _ .call ?_)
    exact ⟨ar_eq (by unfold arLow; omega) (by unfold arHigh; omega)⟩
  simp only [Bool.or_eq_false_iff, beq_eq_false_iff_ne, ne_eq] at h16
  refine sem_seq (fun s1 => s1 = AS.on [(2, .i 0), (3, .i 0), (4, .i op), (29, .b (op == 22))] [] 0 35 0 (fun _ => false)) (sem_vc T_ok mixed ?_) ?_
  · repeat' (first | exact True.intro | apply And.intro | (intro h; exact Bool.noConfusion h) | exact ok_op (by kernel_rfl) | exact ok_tr (by kernel_rfl) | intro _ | refine weak_is (weak_on rfl rfl rfl rfl ?_ ?_) rfl | rfl | apply fin_b | refine @Exists.intro Bool _ true ?_ | refine @Exists.intro Way _ .call ?_)
    all_goals first
      | rfl
      | simp_all
  rintro _ rfl
  refine sem_cond rfl (fun h => sem_vc T_ok mixed ?_) fun h29 => ?_
  · simp only [Bool.or_eq_true, beq_iff_eq] at h
    repeat' (first | exact True.intro | apply And.intro | (intro h; exact Bool.noConfusion h) | exact ok_op (by kernel_rfl) | exact ok_tr (by kernel_rfl) | intro _ | refine fin_to (y := .tup [.lf (li _), .lf (li _)]) rfl ?_ | refine @Exists.intro Bool _ true ?_ | refine @Exists.intro Way _ .call ?_)
    exact ⟨ar_eq (by unfold arLow; omega) (by unfold arHigh; omega)⟩
  simp only [Bool.or_eq_false_iff, beq_eq_false_iff_ne, ne_eq] at h29
  refine sem_seq (fun s1 => s1 = AS.on [(2, .i 0), (3, .i 0), (4, .i op), (31, .b (op == 23))] [] 0 35 0 (fun _ => false)) (sem_vc T_ok mixed ?_) ?_
  · repeat' (first | exact True.intro | apply And.intro | (intro h; exact Bool.noConfusion h) | exact ok_op (by kernel_rfl) | exact ok_tr (by kernel_rfl) | intro _ | refine weak_is (weak_on rfl rfl rfl rfl ?_ ?_) rfl | rfl | apply fin_b | refine @Exists.intro Bool _ true ?_ | refine @Exists.intro Way _ .call ?_)
    all_goals first
      | rfl
      | simp_all
  rintro _ rfl
  refine sem_cond rfl (fun h => sem_vc T_ok mixed ?_) fun h31 => ?_
  · simp only [Bool.or_eq_true, beq_iff_eq] at h
    repeat' (first | exact True.intro | apply And.intro | (intro h; exact Bool.noConfusion h) | exact ok_op (by kernel_rfl) | exact ok_tr (by kernel_rfl) | intro _ | refine fin_to (y := .tup [.lf (li _), .lf (li _)]) rfl ?_ | refine @Exists.intro Bool _ true ?_ | refine @Exists.intro Way _ .call ?_)
    exact ⟨ar_eq (by unfold arLow; omega) (by unfold arHigh; omega)⟩
  simp only [Bool.or_eq_false_iff, beq_eq_false_iff_ne, ne_eq] at h31
  refine sem_seq (fun s1 => s1 = AS.on [(2, .i 0), (3, .i 0), (4, .i op), (33, .b (op == 24))] [] 0 35 0 (fun _ => false)) (sem_vc T_ok mixed ?_) ?_
  · repeat' (first | exact True.intro | apply And.intro | (intro h; exact Bool.noConfusion h) | exact ok_op (by kernel_rfl) | exact ok_tr (by kernel_rfl) | intro _ | refine weak_is (weak_on rfl rfl rfl rfl ?_ ?_) rfl | rfl | apply fin_b | refine @Exists.intro Bool _ true ?_ | refine @Exists.intro Way _ .call ?_)
    all_goals first
      | rfl
      | simp_all
  rintro _ rfl
  refine sem_cond rfl (fun h => sem_vc T_ok mixed ?_) fun h33 => ?_
  · simp only [Bool.or_eq_true, beq_iff_eq] at h
    repeat' (first | exact True.intro | apply And.intro | (intro h; exact Bool.noConfusion h) | exact ok_op (by kernel_rfl) | exact ok_tr (by kernel_rfl) | intro _ | refine fin_to (y := .tup [.lf (li _), .lf (li _)]) rfl ?_ | refine @Exists.intro Bool _ true ?_ | refine @Exists.intro Way _ .call ?_)
    exact ⟨ar_eq (by unfold arLow; omega) (by unfold arHigh; omega)⟩
  simp only [Bool.or_eq_false_iff, beq_eq_false_iff_ne, ne_eq] at h33
  refine sem_vc T_ok mixed ?_
  repeat' (first | exact True.intro | apply And.intro | (intro h; exact Bool.noConfusion h) | exact ok_op (by kernel_rfl) | exact ok_tr (by kernel_rfl) | intro _ | refine weak_is (weak_on rfl rfl rfl rfl ?_ ?_) ⟨by unfold arLow; omega, by unfold arHigh; omega, rfl⟩ | rfl | refine @Exists.intro Bool _ true ?_ | refine @Exists.intro Way _ .call ?_)

def zeroVB (vk vi : Int) (vt : ByteArray) : Bool := vk == 0 && (vi == 0 && vt.toList == (⟨#[]⟩ : ByteArray).toList)
def formedB (op n vk vi : Int) (vt s : ByteArray) (len : Int) : Bool :=
  if arLow op < 0 ∨ len < arLow op ∨ len > arHigh op ∨ emptyB s = false then false
  else if op = 1 then n == 0 && validV vk vi vt else if op = 2 then zeroVB vk vi vt
  else if op = 24 then zeroVB vk vi vt && decide (n ≥ 0) && decide (n < 13) else n == 0 && zeroVB vk vi vt
end Go.Proofs.YtijjagkeaehhbaaGreat.Eng

/- Whether an expression is well formed, and the reference's conditions of an expression. Each function's arguments are its condition. -/
set_option linter.unusedSimpArgs false
set_option linter.unusedVariables false
namespace Go.Proofs.YtijjagkeaehhbaaGreat.Eng
open Go.RowKit (Below)

theorem c_rnull0 : AFunR Tryz.prog 57 [] (fun r => r = .agg [li 0, li 0, .pv (.str ⟨#[]⟩)]) := c_rnull
set_option maxRecDepth 20000 in
theorem c_formed (op n vk vi : Int) (vt s : ByteArray) (rows : List (List PV)) : AFunR Tryz.prog 56 [.agg [li op, li n, li vk, li vi, .pv (.str vt), .pv (.str s), .pv (.vs 7 rows)]] (fun r => r = .b (formedB op n vk vi vt s rows.length)) := by
  have har := c_arity op
  have hfb : formedB op n vk vi vt s rows.length = formedB op n vk vi vt s rows.length := rfl
  unfold formedB at hfb ⊢
  clear hfb
  generalize arLow op = lo at har ⊢
  generalize arHigh op = hi at har ⊢
  refine afun_body T_ok mixed Tryz.func56 rfl (ent_of Tryz.func56 rfl rfl) (Nat.le_of_ble_eq_true rfl) ?_
  repeat' (first | exact True.intro | apply And.intro | (intro h; exact Bool.noConfusion h) | exact ok_op (by kernel_rfl) | exact ok_tr (by kernel_rfl) | intro _ | refine callR_of_fun har.afun rfl ?_ | refine callR_of_fun (c_rvvalid _ _ _).afun rfl ?_ | refine Exists.intro _ (And.intro c_rnull0.afun (And.intro rfl ?_)) | refine Exists.intro _ (And.intro (eq_val _ _ _ _ _ _ _ _) ?_) | apply fin_b | rfl | refine @Exists.intro Bool _ true ?_ | refine @Exists.intro Way _ .call ?_)
  all_goals (clear har; unfold emptyB zeroVB; grind)

def plainB (o k i : Int) (t : ByteArray) : Bool := o == 1 && validV k i t && !(k == 0)
theorem condV_ref (op o1 n1 k1 i1 : Int) (t1 : ByteArray) (o2 n2 k2 i2 : Int) (t2 : ByteArray) (h : inSet op = true) : condV op o1 n1 k1 i1 t1 o2 n2 k2 i2 t2 =
    (if (o1 == 2 && plainB o2 k2 i2 t2) = true then someA op n1 k2 i2 t2 else if (o2 == 2 && plainB o1 k1 i1 t1) = true then someA (mirF op) n2 k1 i1 t1 else noneA) := by
  unfold condV coreV plainB
  rw [if_pos h]
  by_cases h1 : o1 = 1
  · subst h1
    simp only [if_true]
    by_cases h2 : o2 = 2 <;> by_cases h3 : k1 = 0 <;> cases h4 : validV k1 i1 t1 <;> simp [h2, h3, h4]
  · rw [if_neg h1]
    by_cases h2 : o1 = 2 <;> by_cases h3 : o2 = 1 <;> by_cases h5 : k2 = 0 <;> cases h4 : validV k2 i2 t2 <;> simp [h1, h2, h3, h4, h5]

end Go.Proofs.YtijjagkeaehhbaaGreat.Eng
