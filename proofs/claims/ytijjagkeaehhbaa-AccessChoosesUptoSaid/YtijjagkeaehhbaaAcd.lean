/- What predicate.Conditions and the test of the key columns compute. Each function's arguments are its condition. -/
import Derived.Test.YtijjagkeaehhbaaAcc
set_option linter.unusedSimpArgs false
set_option linter.unusedVariables false
namespace Go.Proofs.Ytijjagkeaehhbaa.Eng
open Go.RowKit (Below)

theorem c_conditions (e : Ex) (hf : e.fits) (hb : (leaves e).length ≤ 1099511627776) : AFunR Try.prog 85 [.agg (pvs e.row)] (fun r => r = .pv (.vs 5 (leaves e))) := by
  have hea := c_each_n (SizeOf.sizeOf e + 1) e hf (Nat.lt_succ_self _) [] (by simpa using hb)
  rw [List.nil_append] at hea
  obtain ⟨op, n, vk, vi, vt, s, args⟩ := e
  refine afun_sem T_ok Try.func85 rfl (ent_of Try.func85 rfl rfl) (Nat.le_of_ble_eq_true rfl) ?_
  refine sem_join T_ok mixed (fun s1 => s1 = AS.on [(1, .lv (.ptr 0 0)), (3, .lv (.ptr 1 0))] [(0, .box 31 (pvs (Ex.mk op n vk vi vt s args).row)), (1, .box 89 [.sl 2]), (2, .row 132 5 [])] 3 8 0 (fun _ => false)) ?_ ?_
  · repeat' (first | exact True.intro | apply And.intro | (intro h; exact Bool.noConfusion h) | exact ok_op (by kernel_rfl) | exact ok_tr (by kernel_rfl) | intro _ | refine weak_is ((weak_adoptC (id := 1) (k := 0) (t := 132) (sz := 5) rfl rfl).trans (weak_on rfl rfl rfl rfl ?_ ?_)) rfl | rfl | refine Exists.intro _ (And.intro rfl ?_) | refine @Exists.intro Bool _ true ?_ | refine @Exists.intro Way _ .call ?_)
  rintro _ rfl
  refine sem_vc T_ok mixed ?_
  repeat' (first | exact True.intro | apply And.intro | (intro h; exact Bool.noConfusion h) | exact ok_op (by kernel_rfl) | exact ok_tr (by kernel_rfl) | intro _ | refine callR_of_frame_eq hea [1, 2] rfl rfl ?_ rfl ?_ | apply fin_vs | rfl | refine @Exists.intro Bool _ true ?_ | refine @Exists.intro Way _ .call ?_)

theorem fin_bo {x y : Bool} {o : List AObj} (h : Fin (x = y)) : AV.b x = AV.b y ∧ o = o := ⟨by rw [h.out], rfl⟩
theorem c_isEq (op cl k i col : Int) (tx : ByteArray) : CallF Try.prog 87 [.agg [li op, li cl, li k, li i, .pv (.str tx)], .lv (.ptr 0 0)] [.box 3 [li col]] (fun _ => false) (fun r objs => r = .b (op == 7 && cl == col) ∧ objs = [.box 3 [li col]]) := by
  refine callF_body T_ok mixed Try.func87 rfl (ent_of Try.func87 rfl rfl) (Nat.le_of_ble_eq_true rfl) ?_
  repeat' (first | exact True.intro | apply And.intro | (intro h; exact Bool.noConfusion h) | exact ok_op (by kernel_rfl) | exact ok_tr (by kernel_rfl) | intro _ | apply fin_b | rfl | refine @Exists.intro Bool _ true ?_ | refine @Exists.intro Way _ .call ?_)
  all_goals grind

/-- A condition. -/
structure Cd where
  op : Int
  cl : Int
  k : Int
  i : Int
  t : ByteArray
def Cd.row (c : Cd) : List PV := [I c.op, I c.cl, I c.k, I c.i, .str c.t]
def cdOfA : AV → List Cd
  | .tup [.agg [.pv (.int .i64 a), .pv (.int .i64 b), .pv (.int .i64 c), .pv (.int .i64 d), .pv (.str e)], .lf (.pv (.bool true))] => [⟨a, b, c, d, e⟩]
  | _ => []
mutual
def leavesC : Ex → List Cd
  | .mk op n vk vi vt s args => bif andB op n vk vi vt s args.length then leavesCL args else cdOfA (condE (.mk op n vk vi vt s args))
def leavesCL : List Ex → List Cd
  | [] => []
  | e :: r => leavesC e ++ leavesCL r
end
theorem condsE_cd (e : Ex) : condsE e = (cdOfA (condE e)).map Cd.row := by
  unfold condsE
  rcases condE_cases e with h | ⟨op, n, k, i, t, h⟩ <;> rw [h] <;> rfl
mutual
theorem leaves_cd : ∀ e : Ex, leaves e = (leavesC e).map Cd.row
  | .mk op n vk vi vt s args => by
    rw [leaves, leavesC]
    cases andB op n vk vi vt s args.length with
    | true => exact leavesL_cd args
    | false => exact condsE_cd _
theorem leavesL_cd : ∀ l : List Ex, leavesL l = (leavesCL l).map Cd.row
  | [] => rfl
  | e :: r => by rw [leavesL, leavesCL, List.map_append, leaves_cd e, leavesL_cd r]
end

def isEq (col : Int) (c : Cd) : Bool := c.op == 7 && c.cl == col
def idxN (cds : List Cd) (col : Int) : Int := match cds.findIdx? (isEq col) with | some i => (i : Int) | none => -1
theorem cdRow_get {cds : List Cd} {j : Nat} {c : Cd} (h : cds[j]? = some c) : (cds.map Cd.row)[((j : Nat) : Int).toNat]? = some c.row := by
  have : ((j : Nat) : Int).toNat = j := rfl
  rw [this, List.getElem?_map, h]; rfl

end Go.Proofs.Ytijjagkeaehhbaa.Eng
