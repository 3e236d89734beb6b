/- What the comparisons of values and of rows compute. Each function's arguments are its condition. -/
import Derived.Test.YtijjagkeaehhbaaAcg
import Derived.Lib.Bytealg
import Derived.Laws.Externs
set_option linter.unusedSimpArgs false
set_option linter.unusedVariables false
namespace Go.Proofs.Ytijjagkeaehhbaa.Eng
open Go.RowKit (Below)

/-- A value. -/
structure Vl where
  k : Int
  i : Int
  t : ByteArray
def Vl.row (v : Vl) : List PV := [I v.k, I v.i, .str v.t]
abbrev Vl.agg (v : Vl) : AV := .agg [li v.k, li v.i, .pv (.str v.t)]
theorem vlRow_get {a : List Vl} {j : Nat} {v : Vl} (h : a[j]? = some v) : (a.map Vl.row)[((j : Nat) : Int).toNat]? = some v.row := by
  have : ((j : Nat) : Int).toNat = j := rfl
  rw [this, List.getElem?_map, h]; rfl

def cmpI (x y : Int) : Int := if x < y then -1 else if y < x then 1 else 0
def cmpB (x y : ByteArray) : Int := Go.Lib.compareBytes x.data.toList y.data.toList
theorem c_isNaN (n : Int) : AFunR Try.prog 141 [.i n] (fun r => r = .b false) := by
  refine afun_body T_ok mixed Try.func141 rfl (ent_of Try.func141 rfl rfl) (Nat.le_of_ble_eq_true rfl) ?_
  repeat' (first | exact True.intro | apply And.intro | (intro h; exact Bool.noConfusion h) | exact ok_op (by kernel_rfl) | exact ok_tr (by kernel_rfl) | intro _ | apply fin_b | refine @Exists.intro Bool _ true ?_ | refine @Exists.intro Way _ .call ?_)
  all_goals simp
theorem c_cmpInt (a b : Int) : AFunR Try.prog 128 [.i a, .i b] (fun r => r = .i (cmpI a b)) := by
  refine afun_body T_ok mixed Try.func128 rfl (ent_of Try.func128 rfl rfl) (Nat.le_of_ble_eq_true rfl) ?_
  repeat' (first | exact True.intro | apply And.intro | (intro h; exact Bool.noConfusion h) | exact ok_op (by kernel_rfl) | exact ok_tr (by kernel_rfl) | intro _ | refine callR_of_fun (c_isNaN _).afun rfl ?_ | apply fin_i | refine @Exists.intro Bool _ true ?_ | refine @Exists.intro Way _ .call ?_)
  all_goals (unfold cmpI; grind)
theorem pure_cmpstr {ev : Operand → AV} {dst : Option Tmp} {ty : TypeId} {pos : String} {af : Array Edge} {gd : Option (Nat × Bool)} {x y : Operand} {a b : ByteArray} {ts : Array TypeId} (hf : ev (.func 147) = .pv (.fn 147)) (hx : ev x = .pv (.str a)) (hy : ev y = .pv (.str b)) :
    PureOp Try.prog ⟨dst, .call { callee := .value (.func 147), args := #[x, y], argTypes := ts }, ty, pos, af, gd⟩ ev (.i (cmpB a b)) := by
  constructor
  intro w S σ n ρ hρ
  have h1 := (hx ▸ hρ x (by simp [Op.operands, Call.operands])).str_inv
  have h2 := (hy ▸ hρ y (by simp [Op.operands, Call.operands])).str_inv
  have h0 : ρ (.func 147) = .func (.func 147) #[] #[] := by
    have := (hf ▸ hρ (.func 147) (by simp [Op.operands, Call.operands])).pv_inv
    generalize ρ (.func 147) = v at this
    cases this
    rfl
  refine ⟨_, ?_, .int .i64 (cmpB a b)⟩
  have hc := Go.Lib.run_compareString (P := Try.prog) a b w
  have he : (callFunc 147 #[.string a, .string b]).run Try.prog w = .ok (.value (.int .i64 (cmpB a b))) w := by
    rw [run_callFunc_extern (e := Extern.BytealgCompare.compare) Try.func147 rfl rfl (by kernel_rfl) (by kernel_rfl), hc]
    rfl
  simp only [execOp, resolve, Sem.run_bind, Sem.run_pure, Result.andThen_ok, h0, h1, h2, Deferred.ofValue, invoke, Array.empty_append, Array.append_empty, List.map_toArray, List.map_cons, List.map_nil]
  exact he
theorem c_cmpString (a b : ByteArray) : AFunR Try.prog 142 [.pv (.str a), .pv (.str b)] (fun r => r = .i (cmpB a b)) := by
  refine afun_body T_ok mixed Try.func142 rfl (ent_of Try.func142 rfl rfl) (Nat.le_of_ble_eq_true rfl) ?_
  repeat' (first | exact True.intro | apply And.intro | (intro h; exact Bool.noConfusion h) | exact ok_op (by kernel_rfl) | exact ok_tr (by kernel_rfl) | intro _ | refine @Exists.intro Way _ .pure (Exists.intro _ (And.intro (pure_cmpstr rfl rfl rfl) ?_)) | apply fin_i | refine @Exists.intro Bool _ true ?_ | refine @Exists.intro Way _ .call ?_)
  all_goals rfl
theorem c_strCompare (a b : ByteArray) : AFunR Try.prog 129 [.pv (.str a), .pv (.str b)] (fun r => r = .i (cmpB a b)) := by
  refine afun_body T_ok mixed Try.func129 rfl (ent_of Try.func129 rfl rfl) (Nat.le_of_ble_eq_true rfl) ?_
  repeat' (first | exact True.intro | apply And.intro | (intro h; exact Bool.noConfusion h) | exact ok_op (by kernel_rfl) | exact ok_tr (by kernel_rfl) | intro _ | refine callR_of_fun (c_cmpString _ _).afun rfl ?_ | apply fin_i | refine @Exists.intro Bool _ true ?_ | refine @Exists.intro Way _ .call ?_)
  all_goals rfl

/-- The first number that is not zero. -/
def orL : List Int → Int
  | [] => 0
  | x :: r => if x ≠ 0 then x else orL r
theorem c_or (l : List Int) (hl : l.length ≤ 9223372036854775807) : AFunR Try.prog 127 [.pv (.vs 1 (keyRows l))] (fun r => r = .i (orL l)) := by
  refine afun_body T_ok mixed Try.func127 rfl (ent_of Try.func127 rfl rfl) (Nat.le_of_ble_eq_true rfl) ?_
  have hlen : (keyRows l).length = l.length := List.length_map ..
  repeat' (first | exact True.intro | apply And.intro | (intro h; exact Bool.noConfusion h) | exact ok_op (by kernel_rfl) | exact ok_tr (by kernel_rfl) | intro _ | refine @Exists.intro Bool _ true ?_ | refine @Exists.intro Way _ .call ?_)
  refine ⟨fun m st => ∃ j : Nat, j ≤ l.length ∧ orL (l.drop j) = orL l ∧ m = l.length - j ∧ st = AS.on [(3, .i 0), (6, .pv (.vs 1 (keyRows l))), (7, .i (keyRows l).length), (8, .i j)] [] 0 18 0 (fun _ => false), ⟨l.length, _, ⟨0, Nat.zero_le _, rfl, rfl, rfl⟩, ?_⟩, ?_⟩
  · refine weak_on rfl rfl rfl rfl ?_ ?_
    repeat' (first | exact True.intro | apply And.intro | (intro h; exact Bool.noConfusion h) | exact ok_op (by kernel_rfl) | exact ok_tr (by kernel_rfl) | intro _ | rfl | refine @Exists.intro Bool _ true ?_ | refine @Exists.intro Way _ .call ?_)
  · rintro m st ⟨j, hj, heq, rfl, rfl⟩
    by_cases hlt : j < l.length
    · obtain ⟨x, hx⟩ : ∃ x, l[j]? = some x := ⟨_, List.getElem?_eq_getElem hlt⟩
      have hrow := keyRow_get hx
      have hdrop : l.drop j = x :: l.drop (j + 1) := by
        rw [List.drop_eq_getElem_cons hlt]
        rw [List.getElem?_eq_getElem hlt] at hx
        rw [Option.some.inj hx]
      rw [hdrop, orL] at heq
      repeat' (first | exact True.intro | apply And.intro | (intro h; exact Bool.noConfusion h) | exact ok_op (by kernel_rfl) | exact ok_tr (by kernel_rfl) | intro _ | refine Exists.intro _ (And.intro (Int.natCast_nonneg j) (And.intro hrow (And.intro rfl ?_))) | apply fin_i | rfl | refine @Exists.intro Bool _ true ?_ | refine @Exists.intro Way _ .call ?_)
      all_goals first
        | (exfalso; have := of_decide_eq_false ‹decide ((j : Int) < (keyRows l).length) = false›; omega)
        | (rw [if_pos (by simp_all)] at heq; exact heq)
        | skip
      refine ⟨l.length - (j + 1), _, by omega, ⟨j + 1, hlt, by rw [if_neg (by simp_all)] at heq; exact heq, rfl, rfl⟩, weak_on rfl rfl rfl rfl ?_ ?_⟩
      · repeat' (first | exact True.intro | apply And.intro | (intro h; exact Bool.noConfusion h) | exact ok_op (by kernel_rfl) | exact ok_tr (by kernel_rfl) | intro _ | rfl | (apply fin_i; rw [wrap_id] <;> omega) | refine @Exists.intro Bool _ true ?_ | refine @Exists.intro Way _ .call ?_)
      · repeat' (first | exact True.intro | apply And.intro | (intro h; exact Bool.noConfusion h) | exact ok_op (by kernel_rfl) | exact ok_tr (by kernel_rfl) | intro _ | rfl | refine Exists.intro _ (And.intro rfl ?_) | refine @Exists.intro Bool _ true ?_ | refine @Exists.intro Way _ .call ?_)
    · have hje : j = l.length := by omega
      rw [hje, List.drop_length, orL] at heq
      repeat' (first | exact True.intro | apply And.intro | (intro h; exact Bool.noConfusion h) | exact ok_op (by kernel_rfl) | exact ok_tr (by kernel_rfl) | intro _ | apply fin_i | rfl | refine @Exists.intro Bool _ true ?_ | refine @Exists.intro Way _ .call ?_)
      all_goals first
        | (exfalso; have := of_decide_eq_true ‹decide ((j : Int) < (keyRows l).length) = true›; omega)
        | exact heq

def vcmp (a b : Vl) : Int := orL [cmpI a.k b.k, cmpI a.i b.i, cmpB a.t b.t]
set_option maxRecDepth 20000 in
theorem c_vcmp (a b : Vl) : AFunR Try.prog 101 [a.agg, b.agg] (fun r => r = .i (vcmp a b)) := by
  obtain ⟨ak, ai, at'⟩ := a
  obtain ⟨bk, bi, bt⟩ := b
  have ho := c_or [cmpI ak bk, cmpI ai bi, cmpB at' bt] (by simp)
  refine afun_body T_ok mixed Try.func101 rfl (ent_of Try.func101 rfl rfl) (Nat.le_of_ble_eq_true rfl) ?_
  repeat' (first | exact True.intro | apply And.intro | (intro h; exact Bool.noConfusion h) | exact ok_op (by kernel_rfl) | exact ok_tr (by kernel_rfl) | intro _ | refine Exists.intro _ (And.intro (c_cmpInt _ _).afun (And.intro rfl ?_)) | refine Exists.intro _ (And.intro (c_strCompare _ _).afun (And.intro rfl ?_)) | refine Exists.intro _ (And.intro ho.afun (And.intro rfl ?_)) | refine @Exists.intro Bool _ false ?_ | apply fin_i | refine @Exists.intro Bool _ true ?_ | refine @Exists.intro Way _ .call ?_)
  all_goals rfl

end Go.Proofs.Ytijjagkeaehhbaa.Eng
