/- What the comparisons of rows compute, the program's and the reference's, and that they agree on what is equal. Each function's arguments are its condition. -/
import Derived.Test.YtijjagkeaehhbaaAma
set_option linter.unusedSimpArgs false
set_option linter.unusedVariables false
namespace Go.Proofs.Ytijjagkeaehhbaa.Eng
open Go.RowKit (Below)

def rcmp : List Vl → List Vl → Int
  | [], [] => 0
  | [], _ :: _ => -1
  | _ :: _, [] => 1
  | x :: a, y :: b => if vcmp x y ≠ 0 then vcmp x y else rcmp a b
theorem rcmp_nil (b : List Vl) : rcmp [] b = if b.length = 0 then 0 else -1 := by
  cases b <;> simp [rcmp]
theorem rcmp_cons_nil (x : Vl) (a b : List Vl) (h : b.length = 0) : rcmp (x :: a) b = 1 := by
  cases b with
  | nil => rfl
  | cons y b => simp at h
theorem drop_get {α : Type} {l : List α} {j : Nat} {x : α} (h : l[j]? = some x) : l.drop j = x :: l.drop (j + 1) := by
  obtain ⟨hlt, he⟩ := List.getElem?_eq_some_iff.1 h
  rw [List.drop_eq_getElem_cons hlt, he]
abbrev vlA (a : List Vl) : AV := .pv (.vs 3 (a.map Vl.row))

theorem c_cmpF (a b : List Vl) (ha : a.length ≤ 9223372036854775807) (hb : b.length ≤ 9223372036854775807) :
    AFunR Try.prog 100 [vlA a, vlA b, .pv (.fn 101)] (fun r => r = .i (rcmp a b)) := by
  refine afun_body T_ok mixed Try.func100 rfl (ent_of Try.func100 rfl rfl) (Nat.le_of_ble_eq_true rfl) ?_
  have hla : (a.map Vl.row).length = a.length := List.length_map ..
  have hlb : (b.map Vl.row).length = b.length := List.length_map ..
  repeat' (first | exact True.intro | apply And.intro | (intro h; exact Bool.noConfusion h) | exact ok_op (by kernel_rfl) | exact ok_tr (by kernel_rfl) | intro _ | refine @Exists.intro Bool _ true ?_ | refine @Exists.intro Way _ .call ?_)
  refine ⟨fun m st => ∃ j : Nat, j ≤ a.length ∧ j ≤ b.length ∧ rcmp (a.drop j) (b.drop j) = rcmp a b ∧ m = a.length - j ∧ st = AS.on [(0, vlA a), (1, vlA b), (2, .pv (.fn 101)), (11, vlA a), (12, .i (a.map Vl.row).length), (13, .i j)] [] 0 39 0 (fun _ => false), ⟨a.length, _, ⟨0, Nat.zero_le _, Nat.zero_le _, rfl, rfl, rfl⟩, ?_⟩, ?_⟩
  · refine weak_on rfl rfl rfl rfl ?_ ?_
    repeat' (first | exact True.intro | apply And.intro | (intro h; exact Bool.noConfusion h) | exact ok_op (by kernel_rfl) | exact ok_tr (by kernel_rfl) | intro _ | rfl | refine @Exists.intro Bool _ true ?_ | refine @Exists.intro Way _ .call ?_)
  · rintro m st ⟨j, hja, hjb, heq, rfl, rfl⟩
    by_cases hlt : j < a.length
    · obtain ⟨x, hx⟩ : ∃ x, a[j]? = some x := ⟨_, List.getElem?_eq_getElem hlt⟩
      have hrow := vlRow_get hx
      rw [drop_get hx] at heq
      by_cases hltb : j < b.length
      · obtain ⟨y, hy⟩ : ∃ y, b[j]? = some y := ⟨_, List.getElem?_eq_getElem hltb⟩
        have hrowb := vlRow_get hy
        rw [drop_get hy, rcmp] at heq
        have hv := c_vcmp x y
        generalize hc : vcmp x y = c at hv heq
        obtain ⟨xk, xi, xt⟩ := x
        obtain ⟨yk, yi, yt⟩ := y
        repeat' (first | exact True.intro | apply And.intro | (intro h; exact Bool.noConfusion h) | exact ok_op (by kernel_rfl) | exact ok_tr (by kernel_rfl) | intro _ | refine Exists.intro _ (And.intro (Int.natCast_nonneg j) (And.intro hrow (And.intro rfl ?_))) | refine Exists.intro _ (And.intro (Int.natCast_nonneg j) (And.intro hrowb (And.intro rfl ?_))) | refine callR_of_fun hv.afun rfl ?_ | apply fin_i | rfl | refine @Exists.intro Bool _ true ?_ | refine @Exists.intro Way _ .call ?_)
        all_goals first
          | (exfalso; have := of_decide_eq_false ‹decide ((j : Int) < (a.map Vl.row).length) = false›; omega)
          | (exfalso; have := of_decide_eq_true ‹decide ((j : Int) ≥ (b.map Vl.row).length) = true›; omega)
          | (rw [if_pos (by simp_all)] at heq; exact heq)
          | skip
        refine ⟨a.length - (j + 1), _, by omega, ⟨j + 1, hlt, hltb, by rw [if_neg (by simp_all)] at heq; exact heq, rfl, rfl⟩, weak_on rfl rfl rfl rfl ?_ ?_⟩
        · repeat' (first | exact True.intro | apply And.intro | (intro h; exact Bool.noConfusion h) | exact ok_op (by kernel_rfl) | exact ok_tr (by kernel_rfl) | intro _ | rfl | (apply fin_i; rw [wrap_id] <;> omega) | refine @Exists.intro Bool _ true ?_ | refine @Exists.intro Way _ .call ?_)
        · repeat' (first | exact True.intro | apply And.intro | (intro h; exact Bool.noConfusion h) | exact ok_op (by kernel_rfl) | exact ok_tr (by kernel_rfl) | intro _ | rfl | refine Exists.intro _ (And.intro rfl ?_) | refine @Exists.intro Bool _ true ?_ | refine @Exists.intro Way _ .call ?_)
      · have hjbe : j = b.length := by omega
        rw [rcmp_cons_nil _ _ _ (by rw [List.length_drop]; omega)] at heq
        obtain ⟨xk, xi, xt⟩ := x
        repeat' (first | exact True.intro | apply And.intro | (intro h; exact Bool.noConfusion h) | exact ok_op (by kernel_rfl) | exact ok_tr (by kernel_rfl) | intro _ | refine Exists.intro _ (And.intro (Int.natCast_nonneg j) (And.intro hrow (And.intro rfl ?_))) | apply fin_i | rfl | refine @Exists.intro Bool _ true ?_ | refine @Exists.intro Way _ .call ?_)
        all_goals first
          | (exfalso; have := of_decide_eq_false ‹decide ((j : Int) < (a.map Vl.row).length) = false›; omega)
          | (exfalso; have := of_decide_eq_false ‹decide ((j : Int) ≥ (b.map Vl.row).length) = false›; omega)
          | exact heq
    · have hje : j = a.length := by omega
      rw [hje, List.drop_length, rcmp_nil, List.length_drop] at heq
      repeat' (first | exact True.intro | apply And.intro | (intro h; exact Bool.noConfusion h) | exact ok_op (by kernel_rfl) | exact ok_tr (by kernel_rfl) | intro _ | apply fin_i | rfl | refine @Exists.intro Bool _ true ?_ | refine @Exists.intro Way _ .call ?_)
      all_goals first
        | (exfalso; have := of_decide_eq_true ‹decide ((j : Int) < (a.map Vl.row).length) = true›; omega)
        | (rw [← heq, if_neg]; have := of_decide_eq_true ‹decide (((a.map Vl.row).length : Int) < (b.map Vl.row).length) = true›; omega)
        | (rw [← heq, if_pos]; have := of_decide_eq_false ‹decide (((a.map Vl.row).length : Int) < (b.map Vl.row).length) = false›; omega)

theorem c_tcmp (a b : List Vl) (ha : a.length ≤ 9223372036854775807) (hb : b.length ≤ 9223372036854775807) : AFunR Try.prog 65 [vlA a, vlA b] (fun r => r = .i (rcmp a b)) := by
  refine afun_body T_ok mixed Try.func65 rfl (ent_of Try.func65 rfl rfl) (Nat.le_of_ble_eq_true rfl) ?_
  repeat' (first | exact True.intro | apply And.intro | (intro h; exact Bool.noConfusion h) | exact ok_op (by kernel_rfl) | exact ok_tr (by kernel_rfl) | intro _ | refine callR_of_fun (c_cmpF a b ha hb).afun rfl ?_ | apply fin_i | refine @Exists.intro Bool _ true ?_ | refine @Exists.intro Way _ .call ?_)
  all_goals rfl

/-! the reference -/
def sgnB (l g : Bool) : Int := if l = true then -1 else if g = true then 1 else 0
theorem c_sgn (l g : Bool) : AFunR Try.prog 135 [.b l, .b g] (fun r => r = .i (sgnB l g)) := by
  refine afun_body T_ok mixed Try.func135 rfl (ent_of Try.func135 rfl rfl) (Nat.le_of_ble_eq_true rfl) ?_
  repeat' (first | exact True.intro | apply And.intro | (intro h; exact Bool.noConfusion h) | exact ok_op (by kernel_rfl) | exact ok_tr (by kernel_rfl) | intro _ | apply fin_i | refine @Exists.intro Bool _ true ?_ | refine @Exists.intro Way _ .call ?_)
  all_goals (unfold sgnB; simp_all)
def vcmpR (a b : Vl) : Int :=
  if a.k ≠ b.k then sgnB (decide (a.k < b.k)) (decide (a.k > b.k)) else if a.i ≠ b.i then sgnB (decide (a.i < b.i)) (decide (a.i > b.i))
  else sgnB (Op.bytesLess a.t.toList b.t.toList) (!Op.bytesLess a.t.toList b.t.toList && !(a.t.toList == b.t.toList))
theorem c_rvcmp (a b : Vl) : AFunR Try.prog 112 [a.agg, b.agg] (fun r => r = .i (vcmpR a b)) := by
  obtain ⟨ak, ai, at'⟩ := a
  obtain ⟨bk, bi, bt⟩ := b
  refine afun_body T_ok mixed Try.func112 rfl (ent_of Try.func112 rfl rfl) (Nat.le_of_ble_eq_true rfl) ?_
  repeat' (first | exact True.intro | apply And.intro | (intro h; exact Bool.noConfusion h) | exact ok_op (by kernel_rfl) | exact ok_tr (by kernel_rfl) | intro _ | refine callR_of_fun (c_sgn _ _).afun rfl ?_ | apply fin_i | refine @Exists.intro Bool _ true ?_ | refine @Exists.intro Way _ .call ?_)
  all_goals (unfold vcmpR; simp_all)
def rcmpR : List Vl → List Vl → Int
  | [], [] => 0
  | [], _ :: _ => -1
  | _ :: _, [] => 1
  | x :: a, y :: b => if vcmpR x y ≠ 0 then vcmpR x y else rcmpR a b
theorem rcmpR_nil (b : List Vl) : rcmpR [] b = if b.length = 0 then 0 else -1 := by
  cases b <;> simp [rcmpR]
theorem rcmpR_cons_nil (x : Vl) (a b : List Vl) (h : b.length = 0) : rcmpR (x :: a) b = 1 := by
  cases b with
  | nil => rfl
  | cons y b => simp at h
set_option maxRecDepth 20000 in
theorem c_rcmp (a b : List Vl) (ha : a.length ≤ 9223372036854775807) (hb : b.length ≤ 9223372036854775807) : AFunR Try.prog 84 [vlA a, vlA b] (fun r => r = .i (rcmpR a b)) := by
  refine afun_body T_ok mixed Try.func84 rfl (ent_of Try.func84 rfl rfl) (Nat.le_of_ble_eq_true rfl) ?_
  have hla : (a.map Vl.row).length = a.length := List.length_map ..
  have hlb : (b.map Vl.row).length = b.length := List.length_map ..
  repeat' (first | exact True.intro | apply And.intro | (intro h; exact Bool.noConfusion h) | exact ok_op (by kernel_rfl) | exact ok_tr (by kernel_rfl) | intro _ | refine @Exists.intro Bool _ true ?_ | refine @Exists.intro Way _ .call ?_)
  refine ⟨fun m st => ∃ j : Nat, j ≤ a.length ∧ j ≤ b.length ∧ rcmpR (a.drop j) (b.drop j) = rcmpR a b ∧ m = a.length - j ∧ st = AS.on [(0, vlA a), (1, vlA b), (5, .i j)] [] 0 41 0 (fun _ => false), ⟨a.length, _, ⟨0, Nat.zero_le _, Nat.zero_le _, rfl, rfl, rfl⟩, ?_⟩, ?_⟩
  · refine weak_on rfl rfl rfl rfl ?_ ?_
    repeat' (first | exact True.intro | apply And.intro | (intro h; exact Bool.noConfusion h) | exact ok_op (by kernel_rfl) | exact ok_tr (by kernel_rfl) | intro _ | rfl | refine @Exists.intro Bool _ true ?_ | refine @Exists.intro Way _ .call ?_)
  · rintro m st ⟨j, hja, hjb, heq, rfl, rfl⟩
    by_cases hlt : j < a.length
    · obtain ⟨x, hx⟩ : ∃ x, a[j]? = some x := ⟨_, List.getElem?_eq_getElem hlt⟩
      have hrow := vlRow_get hx
      rw [drop_get hx] at heq
      by_cases hltb : j < b.length
      · obtain ⟨y, hy⟩ : ∃ y, b[j]? = some y := ⟨_, List.getElem?_eq_getElem hltb⟩
        have hrowb := vlRow_get hy
        rw [drop_get hy, rcmpR] at heq
        have hv := c_rvcmp x y
        generalize hc : vcmpR x y = c at hv heq
        obtain ⟨xk, xi, xt⟩ := x
        obtain ⟨yk, yi, yt⟩ := y
        repeat' (first | exact True.intro | apply And.intro | (intro h; exact Bool.noConfusion h) | exact ok_op (by kernel_rfl) | exact ok_tr (by kernel_rfl) | intro _ | refine Exists.intro _ (And.intro (Int.natCast_nonneg j) (And.intro hrow (And.intro rfl ?_))) | refine Exists.intro _ (And.intro (Int.natCast_nonneg j) (And.intro hrowb (And.intro rfl ?_))) | refine Exists.intro _ (And.intro hv.afun (And.intro rfl ?_)) | apply fin_i | rfl | refine @Exists.intro Bool _ true ?_ | refine @Exists.intro Way _ .call ?_)
        all_goals first
          | (exfalso; have := of_decide_eq_false ‹decide ((j : Int) < (a.map Vl.row).length) = false›; omega)
          | (exfalso; have := of_decide_eq_false ‹decide ((j : Int) < (b.map Vl.row).length) = false›; omega)
          | (exfalso; have := ‹decide ((j : Int) < (a.map Vl.row).length) = !true›; simp at this; omega)
          | (rw [if_pos (by simp_all)] at heq; exact heq)
          | skip
        refine ⟨a.length - (j + 1), _, by omega, ⟨j + 1, hlt, hltb, by rw [if_neg (by simp_all)] at heq; exact heq, rfl, rfl⟩, weak_on rfl rfl rfl rfl ?_ ?_⟩
        · repeat' (first | exact True.intro | apply And.intro | (intro h; exact Bool.noConfusion h) | exact ok_op (by kernel_rfl) | exact ok_tr (by kernel_rfl) | intro _ | rfl | (apply fin_i; rw [wrap_id] <;> omega) | refine @Exists.intro Bool _ true ?_ | refine @Exists.intro Way _ .call ?_)
        · repeat' (first | exact True.intro | apply And.intro | (intro h; exact Bool.noConfusion h) | exact ok_op (by kernel_rfl) | exact ok_tr (by kernel_rfl) | intro _ | rfl | refine Exists.intro _ (And.intro rfl ?_) | refine @Exists.intro Bool _ true ?_ | refine @Exists.intro Way _ .call ?_)
      · have hjbe : j = b.length := by omega
        rw [rcmpR_cons_nil _ _ _ (by rw [List.length_drop]; omega)] at heq
        repeat' (first | exact True.intro | apply And.intro | (intro h; exact Bool.noConfusion h) | exact ok_op (by kernel_rfl) | exact ok_tr (by kernel_rfl) | intro _ | apply fin_i | rfl | refine @Exists.intro Bool _ true ?_ | refine @Exists.intro Way _ .call ?_)
        all_goals first
          | (exfalso; have := of_decide_eq_true ‹decide ((j : Int) < (b.map Vl.row).length) = true›; omega)
          | (exfalso; have := of_decide_eq_true ‹decide (((a.map Vl.row).length : Int) < (b.map Vl.row).length) = true›; omega)
          | (exfalso; have := of_decide_eq_false ‹decide (((a.map Vl.row).length : Int) > (b.map Vl.row).length) = false›; omega)
          | exact heq
    · have hje : j = a.length := by omega
      rw [hje, List.drop_length, rcmpR_nil, List.length_drop] at heq
      repeat' (first | exact True.intro | apply And.intro | (intro h; exact Bool.noConfusion h) | exact ok_op (by kernel_rfl) | exact ok_tr (by kernel_rfl) | intro _ | apply fin_i | rfl | refine @Exists.intro Bool _ true ?_ | refine @Exists.intro Way _ .call ?_)
      all_goals first
        | (exfalso; have := of_decide_eq_true ‹decide ((j : Int) < (a.map Vl.row).length) = true›; omega)
        | (exfalso; have := of_decide_eq_true ‹decide (((a.map Vl.row).length : Int) > (b.map Vl.row).length) = true›; omega)
        | (rw [← heq, if_neg]; have := of_decide_eq_true ‹decide (((a.map Vl.row).length : Int) < (b.map Vl.row).length) = true›; omega)
        | (rw [← heq, if_pos]; have := of_decide_eq_false ‹decide (((a.map Vl.row).length : Int) < (b.map Vl.row).length) = false›; omega)
theorem c_requal (a b : List Vl) (ha : a.length ≤ 9223372036854775807) (hb : b.length ≤ 9223372036854775807) : AFunR Try.prog 45 [vlA a, vlA b] (fun r => r = .b (rcmpR a b == 0)) := by
  refine afun_body T_ok mixed Try.func45 rfl (ent_of Try.func45 rfl rfl) (Nat.le_of_ble_eq_true rfl) ?_
  repeat' (first | exact True.intro | apply And.intro | (intro h; exact Bool.noConfusion h) | exact ok_op (by kernel_rfl) | exact ok_tr (by kernel_rfl) | intro _ | refine callR_of_fun (c_rcmp a b ha hb).afun rfl ?_ | apply fin_b | refine @Exists.intro Bool _ true ?_ | refine @Exists.intro Way _ .call ?_)
  all_goals rfl

/-! both say zero of the same rows -/
theorem cmpI_zero (x y : Int) : cmpI x y = 0 ↔ x = y := by unfold cmpI; grind
theorem compareBytes_zero : ∀ a b : List UInt8, Go.Lib.compareBytes a b = 0 ↔ a = b
  | [], [] => by simp [Go.Lib.compareBytes]
  | [], _ :: _ => by simp [Go.Lib.compareBytes]
  | _ :: _, [] => by simp [Go.Lib.compareBytes]
  | x :: a, y :: b => by
    have ih := compareBytes_zero a b
    unfold Go.Lib.compareBytes
    by_cases h1 : x < y
    · have : x ≠ y := fun e => by subst e; exact UInt8.lt_irrefl _ h1
      simp [h1, this]
    · by_cases h2 : y < x
      · have : x ≠ y := fun e => by subst e; exact UInt8.lt_irrefl _ h2
        simp [h1, h2, this]
      · have : x = y := UInt8.le_antisymm (UInt8.not_lt.1 h2) (UInt8.not_lt.1 h1)
        simp [h1, h2, this, ih]
theorem bytesLess_zero : ∀ a b : List UInt8, sgnB (Op.bytesLess a b) (!Op.bytesLess a b && !(a == b)) = 0 ↔ a = b := by
  intro a b
  have irr : ∀ l : List UInt8, Op.bytesLess l l = false := by
    intro l
    induction l with
    | nil => rfl
    | cons x l ih => simp [Op.bytesLess, ih, UInt8.lt_irrefl]
  unfold sgnB
  by_cases h : a = b
  · subst h
    simp [irr]
  · cases h1 : Op.bytesLess a b <;> simp [h]
theorem vcmp_zero (a b : Vl) : vcmp a b = 0 ↔ a.k = b.k ∧ a.i = b.i ∧ a.t.toList = b.t.toList := by
  unfold vcmp cmpB
  rw [ByteArray.toList_eq, ByteArray.toList_eq, ← compareBytes_zero]
  have h1 := cmpI_zero a.k b.k
  have h2 := cmpI_zero a.i b.i
  generalize cmpI a.k b.k = x at h1 ⊢
  generalize cmpI a.i b.i = y at h2 ⊢
  generalize Go.Lib.compareBytes a.t.data.toList b.t.data.toList = z
  rw [← h1, ← h2]
  simp only [orL]
  clear h1 h2
  grind
theorem vcmpR_zero (a b : Vl) : vcmpR a b = 0 ↔ a.k = b.k ∧ a.i = b.i ∧ a.t.toList = b.t.toList := by
  unfold vcmpR
  by_cases h1 : a.k = b.k
  · rw [if_neg (by simp [h1])]
    by_cases h2 : a.i = b.i
    · rw [if_neg (by simp [h2]), bytesLess_zero]
      simp [h1, h2]
    · rw [if_pos h2]
      unfold sgnB
      grind
  · rw [if_pos h1]
    unfold sgnB
    grind
theorem rcmp_zero : ∀ a b : List Vl, rcmp a b = 0 ↔ rcmpR a b = 0
  | [], [] => by simp [rcmp, rcmpR]
  | [], _ :: _ => by simp [rcmp, rcmpR]
  | _ :: _, [] => by simp [rcmp, rcmpR]
  | x :: a, y :: b => by
    have ih := rcmp_zero a b
    have h : vcmp x y = 0 ↔ vcmpR x y = 0 := by rw [vcmp_zero, vcmpR_zero]
    unfold rcmp rcmpR
    by_cases h1 : vcmp x y = 0
    · have h2 := h.1 h1
      simp [h1, h2, ih]
    · have h2 : vcmpR x y ≠ 0 := fun e => h1 (h.2 e)
      simp [h1, h2]
theorem rcmp_eq0 (a b : List Vl) : (rcmp a b == 0) = (rcmpR a b == 0) := by
  rw [Bool.eq_iff_iff]
  simp [rcmp_zero]
end Go.Proofs.Ytijjagkeaehhbaa.Eng
