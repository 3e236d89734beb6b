/- What is said of the reference's value of an expression at a row. Each function's arguments and the stated bounds are its condition. And what follows in this text; each statement bears its conditions. -/
import Derived.Test.YtijjagkeaehhbaaGreatKck
/- What is said of the reference's value of an expression at a row. Each function's arguments and the stated bounds are its condition. -/
set_option linter.unusedSimpArgs false
set_option linter.unusedVariables false
namespace Go.Proofs.YtijjagkeaehhbaaGreat.Eng
open Go.RowKit (Below)

def valR (op n : Int) (v0 : Vl) (row vs : List Vl) (v : Vl) : Prop :=
  okT v ∧ (op = 1 ∨ op = 2 → v = leafV op n v0 row) ∧ (op = 5 → ∃ a r, vs = a :: r ∧ v = ofV (logF 5 (truthV a) r)) ∧ (op = 7 → ∃ a b, vs = [a, b] ∧ v = ofV (equalT a b))
mutual
def evR (row : List Vl) : Ex → Vl → Prop
  | .mk op n vk vi vt s args, v => if formedB op n vk vi vt s args.length = true then ∃ vs, evRL row args vs ∧ valR op n ⟨vk, vi, vt⟩ row vs v else v = nullV
def evRL (row : List Vl) : List Ex → List Vl → Prop
  | [], vs => vs = []
  | e :: r, vs => ∃ v l, vs = v :: l ∧ evR row e v ∧ evRL row r l
end
theorem evR_ok {row : List Vl} : ∀ {e : Ex} {v : Vl}, evR row e v → okT v
  | .mk op n vk vi vt s args, v, h => by
    rw [evR] at h
    split at h
    · obtain ⟨vs, _, h2⟩ := h
      exact h2.1
    · rw [h]; exact ok_null
theorem evRL_len {row : List Vl} : ∀ {l : List Ex} {vs : List Vl}, evRL row l vs → vs.length = l.length ∧ ∀ v ∈ vs, okT v
  | [], vs, h => by rw [evRL] at h; subst h; exact ⟨rfl, fun v hv => by cases hv⟩
  | e :: r, vs, h => by
    rw [evRL] at h
    obtain ⟨v, l, rfl, h1, h2⟩ := h
    obtain ⟨h3, h4⟩ := evRL_len h2
    refine ⟨by simp [h3], fun w hw => ?_⟩
    rcases List.mem_cons.1 hw with rfl | hw
    · exact evR_ok h1
    · exact h4 w hw
theorem evRL_snoc {row : List Vl} : ∀ {l : List Ex} {vs : List Vl} {e : Ex} {v : Vl}, evRL row l vs → evR row e v → evRL row (l ++ [e]) (vs ++ [v])
  | [], vs, e, v, h, he => by rw [evRL] at h; subst h; exact ⟨v, [], rfl, he, rfl⟩
  | x :: r, vs, e, v, h, he => by
    rw [evRL] at h
    obtain ⟨w, l, rfl, h1, h2⟩ := h
    exact ⟨w, l ++ [v], rfl, h1, evRL_snoc h2 he⟩
theorem low_ops {op : Int} (h : ¬ arLow op < 0) : op = 1 ∨ op = 2 ∨ op = 4 ∨ op = 5 ∨ op = 6 ∨ op = 7 ∨ op = 8 ∨ op = 9 ∨ op = 10 ∨ op = 11 ∨ op = 12 ∨ op = 13 ∨ op = 14 ∨ op = 15 ∨ op = 16 ∨ op = 17 ∨ op = 18 ∨ op = 19 ∨ op = 20 ∨ op = 21 ∨ op = 22 ∨ op = 23 ∨ op = 24 := by
  unfold arLow at h
  grind
theorem formed_ops {op n vk vi : Int} {vt s : ByteArray} {len : Int} (h : formedB op n vk vi vt s len = true) : ¬ arLow op < 0 ∧ arLow op ≤ len ∧ len ≤ arHigh op := by
  unfold formedB at h
  split at h
  · cases h
  · rename_i h'
    omega
theorem valR_other {op n : Int} {v0 : Vl} {row vs : List Vl} {v : Vl} (h : ¬ (op = 1 ∨ op = 2 ∨ op = 5 ∨ op = 7)) (ho : okT v) : valR op n v0 row vs v :=
  ⟨ho, fun h1 => absurd (by rcases h1 with h1 | h1 <;> simp [h1]) h, fun h1 => absurd (by simp [h1]) h, fun h1 => absurd (by simp [h1]) h⟩
theorem len1 {l : List Vl} (h : 1 ≤ l.length) : ∃ a r, l = a :: r := by
  cases l with
  | nil => simp at h
  | cons a r => exact ⟨a, r, rfl⟩
theorem len2 {l : List Vl} (h : l.length = 2) : ∃ a b, l = [a, b] := by
  match l, h with
  | [a, b], _ => exact ⟨a, b, rfl⟩
abbrev exB (op n vk vi : Int) (vt s : ByteArray) (args : List Ex) : AObj := .box 31 (exL op n vk vi vt s (.vs 7 (exRows args)))
abbrev vlB : AObj := .box 29 [li 0, li 0, .pv (.str emp)]
set_option maxHeartbeats 4000000 in
set_option maxRecDepth 20000 in
theorem c_reval (row : List Vl) (hrow : row.length ≤ 1099511627776) : ∀ (N : Nat) (e : Ex), e.slim → SizeOf.sizeOf e < N → AFunR Tryz.prog 27 [.agg (pvs e.row), vlA row] (fun r => ∃ v : Vl, r = v.agg ∧ evR row e v)
  | 0, e, _, hN => absurd hN (Nat.not_lt_zero _)
  | N + 1, .mk op n vk vi vt s args, hfit, hN => by
    have hwide := hfit.1
    have hlen := exRows_length args
    have hfm := c_formed op n vk vi vt s (exRows args)
    rw [hlen] at hfm
    have hops : formedB op n vk vi vt s args.length = true → ¬ arLow op < 0 ∧ arLow op ≤ args.length ∧ (args.length : Int) ≤ arHigh op := formed_ops
    have hdef : ∀ v, evR row (.mk op n vk vi vt s args) v = (if formedB op n vk vi vt s args.length = true then ∃ vs, evRL row args vs ∧ valR op n ⟨vk, vi, vt⟩ row vs v else v = nullV) := fun v => by rw [evR]
    generalize evR row (.mk op n vk vi vt s args) = R at hdef ⊢
    generalize formedB op n vk vi vt s args.length = fm at hfm hops hdef
    refine afun_sem T_ok Tryz.func27 rfl (ent_of Tryz.func27 rfl rfl) (Nat.le_of_ble_eq_true rfl) ?_
    refine sem_seq (fun s1 => s1 = AS.on [(1, vlA row), (2, .lv (.ptr 0 0)), (4, .lv (.ptr 1 0))] [(0, exB op n vk vi vt s args), (1, vlB)] 2 124 0 (fun _ => false)) (sem_vc T_ok mixed ?_) ?_
    · repeat' (first | exact True.intro | apply And.intro | (intro h; exact Bool.noConfusion h) | exact ok_op (by kernel_rfl) | exact ok_tr (by kernel_rfl) | intro _ | refine weak_is (weak_on rfl rfl rfl rfl ?_ ?_) rfl | rfl | refine Exists.intro _ (And.intro rfl ?_) | refine @Exists.intro Bool _ true ?_ | refine @Exists.intro Way _ .call ?_)
    rintro _ rfl
    refine sem_seq (fun s1 => fm = true ∧ s1 = AS.on [(1, vlA row), (2, .lv (.ptr 0 0)), (4, .lv (.ptr 1 0))] [(0, exB op n vk vi vt s args), (1, vlB)] 2 124 0 (fun _ => false)) (sem_vc T_ok mixed ?_) ?_
    · repeat' (first | exact True.intro | apply And.intro | (intro h; exact Bool.noConfusion h) | exact ok_op (by kernel_rfl) | exact ok_tr (by kernel_rfl) | intro _ | refine callR_of_fun hfm.afun rfl ?_ | refine callR_of_fun c_rnull.afun rfl ?_ | refine weak_is (weak_on rfl rfl rfl rfl ?_ ?_) ⟨?_, rfl⟩ | rfl | refine Exists.intro _ (And.intro rfl ?_) | refine @Exists.intro Bool _ true ?_ | refine @Exists.intro Way _ .call ?_)
      all_goals (cases fm with
        | true => first
          | rfl
          | exact absurd ‹(!true) = true› (by decide)
        | false => first
          | (rw [hdef, if_neg (by decide)])
          | exact absurd ‹(!false) = false› (by decide))
    rintro _ ⟨hfm1, rfl⟩
    obtain ⟨hlow, hle, hhi⟩ := hops hfm1
    replace hdef : ∀ v, R v = ∃ vs, evRL row args vs ∧ valR op n ⟨vk, vi, vt⟩ row vs v := fun v => by rw [hdef, if_pos hfm1]
    clear hops hfm
    refine sem_seq (fun s1 => s1 = AS.on [(1, vlA row), (2, .lv (.ptr 0 0)), (4, .lv (.ptr 1 0)), (5, .lv (.sl 2))] [(0, exB op n vk vi vt s args), (1, vlB), (2, .row 29 3 [])] 3 124 0 (fun _ => false)) (sem_vc T_ok mixed ?_) ?_
    · repeat' (first | exact True.intro | apply And.intro | (intro h; exact Bool.noConfusion h) | exact ok_op (by kernel_rfl) | exact ok_tr (by kernel_rfl) | intro _ | refine weak_is (weak_on rfl rfl rfl rfl ?_ ?_) rfl | rfl | refine Exists.intro _ (And.intro rfl ?_) | refine @Exists.intro Bool _ true ?_ | refine @Exists.intro Way _ .call ?_)
    rintro _ rfl
    refine sem_seq (fun s1 => ∃ vs, evRL row args vs ∧ s1 = AS.on [(1, vlA row), (2, .lv (.ptr 0 0)), (4, .lv (.ptr 1 0)), (5, vlA vs)] [(0, exB op n vk vi vt s args), (1, vlB)] 3 124 0 (fun _ => false)) (sem_vc T_ok mixed ?_) ?_
    · repeat' (first | exact True.intro | apply And.intro | (intro h; exact Bool.noConfusion h) | exact ok_op (by kernel_rfl) | exact ok_tr (by kernel_rfl) | intro _ | rfl | refine @Exists.intro Bool _ true ?_ | refine @Exists.intro Way _ .call ?_)
      refine ⟨fun m st => ∃ (j : Nat) (acc : List Vl) (out : List (List PV)), j ≤ args.length ∧ evRL row (args.take j) acc ∧ out = acc.map Vl.row ∧ m = args.length - j ∧ st = AS.on [(1, vlA row), (2, .lv (.ptr 0 0)), (4, .lv (.ptr 1 0)), (5, .lv (.sl 2)), (6, .i j)] [(0, exB op n vk vi vt s args), (1, vlB), (2, .row 29 3 out)] 3 124 0 (fun _ => false), ⟨args.length, _, ⟨0, [], [], Nat.zero_le _, rfl, rfl, rfl, rfl⟩, ?_⟩, ?_⟩
      · refine weak_on rfl rfl rfl rfl ?_ ?_
        · repeat' (first | exact True.intro | apply And.intro | (intro h; exact Bool.noConfusion h) | exact ok_op (by kernel_rfl) | exact ok_tr (by kernel_rfl) | intro _ | rfl | refine @Exists.intro Bool _ true ?_ | refine @Exists.intro Way _ .call ?_)
        · repeat' (first | exact True.intro | apply And.intro | (intro h; exact Bool.noConfusion h) | exact ok_op (by kernel_rfl) | exact ok_tr (by kernel_rfl) | intro _ | rfl | refine Exists.intro _ (And.intro rfl ?_) | refine @Exists.intro Bool _ true ?_ | refine @Exists.intro Way _ .call ?_)
      · rintro m st ⟨j, acc, out, hj, hal, hout, rfl, rfl⟩
        have hkal : out.length = j := by rw [hout, List.length_map, (evRL_len hal).1, List.length_take]; omega
        by_cases hlt : j < args.length
        · obtain ⟨x, hx⟩ : ∃ x, args[j]? = some x := ⟨_, List.getElem?_eq_getElem hlt⟩
          have hrow' : (exRows args)[((j : Nat) : Int).toNat]? = some x.row := exRows_get args j x hx
          have hsz : SizeOf.sizeOf x < N := by
            have h1 := List.sizeOf_lt_of_mem (List.mem_of_getElem? hx)
            simp only [Ex.mk.sizeOf_spec] at hN
            omega
          have ih := c_reval row hrow N x (slimL_get args j x hfit.2 hx) hsz
          have hstep : ∀ v, evR row x v → evRL row (args.take (j + 1)) (acc ++ [v]) := fun v hv => by rw [List.take_add_one, hx]; exact evRL_snoc hal hv
          generalize evR row x = RX at ih hstep
          obtain ⟨xo, xn, xk, xi, xt, xs, xa⟩ := x
          repeat' (first | exact True.intro | apply And.intro | (intro h; exact Bool.noConfusion h) | exact ok_op (by kernel_rfl) | exact ok_tr (by kernel_rfl) | intro _ | refine Exists.intro _ (And.intro (Int.natCast_nonneg j) (And.intro hrow' (And.intro rfl ?_))) | refine callR_of_funR ih rfl ?_ | rfl | refine @Exists.intro Bool _ true ?_ | refine @Exists.intro Way _ .call ?_)
          all_goals first
            | (exfalso; have := of_decide_eq_false ‹decide ((j : Int) < (exRows args).length) = false›; omega)
            | skip
          rename_i r hr
          obtain ⟨⟨yk, yi, yt⟩, rfl, hy⟩ := hr
          have hnext : out ++ [[I yk, I yi, .str yt]] = (acc ++ [(⟨yk, yi, yt⟩ : Vl)]).map Vl.row := by rw [hout]; simp [Vl.row]
          repeat' (first | exact True.intro | apply And.intro | (intro h; exact Bool.noConfusion h) | exact ok_op (by kernel_rfl) | exact ok_tr (by kernel_rfl) | intro _ | refine @Exists.intro Bool _ false ?_ | rfl | (simp only [chunk, List.length_cons, List.length_nil, ti29]; omega) | refine @Exists.intro Bool _ true ?_ | refine @Exists.intro Way _ .call ?_)
          refine ⟨args.length - (j + 1), _, by omega, ⟨j + 1, _, _, hlt, hstep _ hy, hnext, rfl, rfl⟩, weak_on rfl rfl rfl rfl ?_ ?_⟩
          · repeat' (first | exact True.intro | apply And.intro | (intro h; exact Bool.noConfusion h) | exact ok_op (by kernel_rfl) | exact ok_tr (by kernel_rfl) | intro _ | rfl | (apply fin_i; rw [wrap_id] <;> omega) | refine @Exists.intro Bool _ true ?_ | refine @Exists.intro Way _ .call ?_)
          · repeat' (first | exact True.intro | apply And.intro | (intro h; exact Bool.noConfusion h) | exact ok_op (by kernel_rfl) | exact ok_tr (by kernel_rfl) | intro _ | rfl | refine Exists.intro _ (And.intro rfl ?_) | refine @Exists.intro Bool _ true ?_ | refine @Exists.intro Way _ .call ?_)
        · have hje : j = args.length := by omega
          rw [hje, List.take_length] at hal
          subst hout
          repeat' (first | exact True.intro | apply And.intro | (intro h; exact Bool.noConfusion h) | exact ok_op (by kernel_rfl) | exact ok_tr (by kernel_rfl) | intro _ | rfl | refine @Exists.intro Bool _ true ?_ | refine @Exists.intro Way _ .call ?_)
          all_goals first
            | (exfalso; have := of_decide_eq_true ‹decide ((j : Int) < (exRows args).length) = true›; omega)
            | refine weak_is ((weak_frz (d := 5) (id := 2) (t := 29) (sz := 3) (rows := acc.map Vl.row) rfl rfl).trans (weak_on rfl rfl rfl rfl ?_ ?_)) ⟨acc, hal, rfl⟩
          · repeat' (first | exact True.intro | apply And.intro | (intro h; exact Bool.noConfusion h) | exact ok_op (by kernel_rfl) | exact ok_tr (by kernel_rfl) | intro _ | rfl | refine @Exists.intro Bool _ true ?_ | refine @Exists.intro Way _ .call ?_)
          · repeat' (first | exact True.intro | apply And.intro | (intro h; exact Bool.noConfusion h) | exact ok_op (by kernel_rfl) | exact ok_tr (by kernel_rfl) | intro _ | rfl | refine Exists.intro _ (And.intro rfl ?_) | refine @Exists.intro Bool _ true ?_ | refine @Exists.intro Way _ .call ?_)
    rintro _ ⟨vs, hvs, rfl⟩
    obtain ⟨hvl, hvo⟩ := evRL_len hvs
    have hR : ∀ v, valR op n ⟨vk, vi, vt⟩ row vs v → R v := fun v hv => by rw [hdef]; exact ⟨vs, hvs, hv⟩
    clear hdef hvs
    have hvl' : vs.length ≤ 1099511627776 := by omega
    have hare := c_rare vs 1 (by omega)
    rcases low_ops hlow with rfl | rfl | rfl | rfl | rfl | rfl | rfl | rfl | rfl | rfl | rfl | rfl | rfl | rfl | rfl | rfl | rfl | rfl | rfl | rfl | rfl | rfl | rfl
    · have hlf := c_rleaf 1 n vk vi vt s (.vs 7 (exRows args)) row
      have hok : okT (leafV 1 n ⟨vk, vi, vt⟩ row) := by unfold leafV; split <;> exact ok_validOr _
      have hval := hR _ ⟨hok, fun _ => rfl, fun h => absurd h (by decide), fun h => absurd h (by decide)⟩
      generalize leafV 1 n ⟨vk, vi, vt⟩ row = V at hlf hval
      obtain ⟨k, i, t⟩ := V
      clear hR hare
      refine sem_vc T_ok mixed ?_
      repeat' (first | exact True.intro | apply And.intro | (intro h; exact Bool.noConfusion h) | exact ok_op (by kernel_rfl) | exact ok_tr (by kernel_rfl) | intro _ | refine callR_of_fun hlf.afun rfl ?_ | exact ⟨(⟨_, _, _⟩ : Vl), rfl, hval⟩ | rfl | refine @Exists.intro Bool _ true ?_ | refine @Exists.intro Way _ .call ?_)
    · have hlf := c_rleaf 2 n vk vi vt s (.vs 7 (exRows args)) row
      have hok : okT (leafV 2 n ⟨vk, vi, vt⟩ row) := by unfold leafV; split <;> exact ok_validOr _
      have hval := hR _ ⟨hok, fun _ => rfl, fun h => absurd h (by decide), fun h => absurd h (by decide)⟩
      generalize leafV 2 n ⟨vk, vi, vt⟩ row = V at hlf hval
      obtain ⟨k, i, t⟩ := V
      clear hR hare
      refine sem_vc T_ok mixed ?_
      repeat' (first | exact True.intro | apply And.intro | (intro h; exact Bool.noConfusion h) | exact ok_op (by kernel_rfl) | exact ok_tr (by kernel_rfl) | intro _ | refine callR_of_fun hlf.afun rfl ?_ | exact ⟨(⟨_, _, _⟩ : Vl), rfl, hval⟩ | rfl | refine @Exists.intro Bool _ true ?_ | refine @Exists.intro Way _ .call ?_)
    · obtain ⟨a, r, rfl⟩ := len1 (show 1 ≤ vs.length by have : (1 : Int) ≤ args.length := hle; omega)
      have hra : ((a :: r).map Vl.row)[((0 : Nat) : Int).toNat]? = some a.row := rfl
      have ht := c_rtruth a
      have hof := c_rof (notT (truthV a))
      have hval := hR _ (valR_other (by decide) (ok_of (notT (truthV a))))
      generalize ofV (notT (truthV a)) = V at hof hval
      generalize truthV a = T0 at ht hof
      have hnt := c_rnot T0
      obtain ⟨k, i, t⟩ := V
      obtain ⟨ak, ai, at'⟩ := a
      clear hR hare
      refine sem_vc T_ok mixed ?_
      repeat' (first | exact True.intro | apply And.intro | (intro h; exact Bool.noConfusion h) | exact ok_op (by kernel_rfl) | exact ok_tr (by kernel_rfl) | intro _ | refine Exists.intro _ (And.intro (by decide) (And.intro hra (And.intro rfl ?_))) | refine callR_of_fun ht.afun rfl ?_ | refine callR_of_fun hnt.afun rfl ?_ | refine callR_of_fun hof.afun rfl ?_ | exact ⟨(⟨_, _, _⟩ : Vl), rfl, hval⟩ | rfl | refine @Exists.intro Bool _ true ?_ | refine @Exists.intro Way _ .call ?_)
    · obtain ⟨a, r, rfl⟩ := len1 (show 1 ≤ vs.length by have : (2 : Int) ≤ args.length := hle; omega)
      have hlg := c_rlogic 5 a r (by simp at hvl'; omega)
      have hval := hR (ofV (logF 5 (truthV a) r)) ⟨ok_of _, fun h => absurd h (by decide), fun _ => ⟨a, r, rfl, rfl⟩, fun h => absurd h (by decide)⟩
      generalize ofV (logF 5 (truthV a) r) = V at hlg hval
      obtain ⟨k, i, t⟩ := V
      clear hR hare
      refine sem_vc T_ok mixed ?_
      repeat' (first | exact True.intro | apply And.intro | (intro h; exact Bool.noConfusion h) | exact ok_op (by kernel_rfl) | exact ok_tr (by kernel_rfl) | intro _ | refine callR_of_fun hlg.afun rfl ?_ | exact ⟨(⟨_, _, _⟩ : Vl), rfl, hval⟩ | rfl | refine @Exists.intro Bool _ true ?_ | refine @Exists.intro Way _ .call ?_)
    · obtain ⟨a, r, rfl⟩ := len1 (show 1 ≤ vs.length by have : (2 : Int) ≤ args.length := hle; omega)
      have hlg := c_rlogic 6 a r (by simp at hvl'; omega)
      have hval := hR (ofV (logF 6 (truthV a) r)) (valR_other (by decide) (ok_of _))
      generalize ofV (logF 6 (truthV a) r) = V at hlg hval
      obtain ⟨k, i, t⟩ := V
      clear hR hare
      refine sem_vc T_ok mixed ?_
      repeat' (first | exact True.intro | apply And.intro | (intro h; exact Bool.noConfusion h) | exact ok_op (by kernel_rfl) | exact ok_tr (by kernel_rfl) | intro _ | refine callR_of_fun hlg.afun rfl ?_ | exact ⟨(⟨_, _, _⟩ : Vl), rfl, hval⟩ | rfl | refine @Exists.intro Bool _ true ?_ | refine @Exists.intro Way _ .call ?_)
    · obtain ⟨a, b, rfl⟩ := len2 (show vs.length = 2 by have : (2 : Int) ≤ args.length := hle; have : (args.length : Int) ≤ 2 := hhi; omega)
      have hra : (([a, b] : List Vl).map Vl.row)[((0 : Nat) : Int).toNat]? = some a.row := rfl
      have hrb : (([a, b] : List Vl).map Vl.row)[((1 : Nat) : Int).toNat]? = some b.row := rfl
      have hcp := c_rcompared 7 a b
      have hof := c_rof (cmpdT 7 a b)
      have hval := hR (ofV (cmpdT 7 a b)) ⟨ok_of _, fun h => absurd h (by decide), fun h => absurd h (by decide), fun _ => ⟨a, b, rfl, rfl⟩⟩
      generalize ofV (cmpdT 7 a b) = V at hof hval
      generalize cmpdT 7 a b = C at hcp hof
      obtain ⟨k, i, t⟩ := V
      obtain ⟨ak, ai, at'⟩ := a
      obtain ⟨bk, bi, bt⟩ := b
      clear hR hare
      refine sem_vc T_ok mixed ?_
      repeat' (first | exact True.intro | apply And.intro | (intro h; exact Bool.noConfusion h) | exact ok_op (by kernel_rfl) | exact ok_tr (by kernel_rfl) | intro _ | refine Exists.intro _ (And.intro (by decide) (And.intro hra (And.intro rfl ?_))) | refine Exists.intro _ (And.intro (by decide) (And.intro hrb (And.intro rfl ?_))) | refine Exists.intro _ (And.intro hcp.afun (And.intro rfl ?_)) | refine Exists.intro _ (And.intro hof.afun (And.intro rfl ?_)) | exact ⟨(⟨_, _, _⟩ : Vl), rfl, hval⟩ | rfl | refine @Exists.intro Bool _ true ?_ | refine @Exists.intro Way _ .call ?_)
    · obtain ⟨a, b, rfl⟩ := len2 (show vs.length = 2 by have : (2 : Int) ≤ args.length := hle; have : (args.length : Int) ≤ 2 := hhi; omega)
      have hra : (([a, b] : List Vl).map Vl.row)[((0 : Nat) : Int).toNat]? = some a.row := rfl
      have hrb : (([a, b] : List Vl).map Vl.row)[((1 : Nat) : Int).toNat]? = some b.row := rfl
      have hcp := c_rcompared 8 a b
      have hof := c_rof (cmpdT 8 a b)
      have hval := hR (ofV (cmpdT 8 a b)) (valR_other (by decide) (ok_of _))
      generalize ofV (cmpdT 8 a b) = V at hof hval
      generalize cmpdT 8 a b = C at hcp hof
      obtain ⟨k, i, t⟩ := V
      obtain ⟨ak, ai, at'⟩ := a
      obtain ⟨bk, bi, bt⟩ := b
      clear hR hare
      refine sem_vc T_ok mixed ?_
      repeat' (first | exact True.intro | apply And.intro | (intro h; exact Bool.noConfusion h) | exact ok_op (by kernel_rfl) | exact ok_tr (by kernel_rfl) | intro _ | refine Exists.intro _ (And.intro (by decide) (And.intro hra (And.intro rfl ?_))) | refine Exists.intro _ (And.intro (by decide) (And.intro hrb (And.intro rfl ?_))) | refine Exists.intro _ (And.intro hcp.afun (And.intro rfl ?_)) | refine Exists.intro _ (And.intro hof.afun (And.intro rfl ?_)) | exact ⟨(⟨_, _, _⟩ : Vl), rfl, hval⟩ | rfl | refine @Exists.intro Bool _ true ?_ | refine @Exists.intro Way _ .call ?_)
    · obtain ⟨a, b, rfl⟩ := len2 (show vs.length = 2 by have : (2 : Int) ≤ args.length := hle; have : (args.length : Int) ≤ 2 := hhi; omega)
      have hra : (([a, b] : List Vl).map Vl.row)[((0 : Nat) : Int).toNat]? = some a.row := rfl
      have hrb : (([a, b] : List Vl).map Vl.row)[((1 : Nat) : Int).toNat]? = some b.row := rfl
      have hcp := c_rcompared 9 a b
      have hof := c_rof (cmpdT 9 a b)
      have hval := hR (ofV (cmpdT 9 a b)) (valR_other (by decide) (ok_of _))
      generalize ofV (cmpdT 9 a b) = V at hof hval
      generalize cmpdT 9 a b = C at hcp hof
      obtain ⟨k, i, t⟩ := V
      obtain ⟨ak, ai, at'⟩ := a
      obtain ⟨bk, bi, bt⟩ := b
      clear hR hare
      refine sem_vc T_ok mixed ?_
      repeat' (first | exact True.intro | apply And.intro | (intro h; exact Bool.noConfusion h) | exact ok_op (by kernel_rfl) | exact ok_tr (by kernel_rfl) | intro _ | refine Exists.intro _ (And.intro (by decide) (And.intro hra (And.intro rfl ?_))) | refine Exists.intro _ (And.intro (by decide) (And.intro hrb (And.intro rfl ?_))) | refine Exists.intro _ (And.intro hcp.afun (And.intro rfl ?_)) | refine Exists.intro _ (And.intro hof.afun (And.intro rfl ?_)) | exact ⟨(⟨_, _, _⟩ : Vl), rfl, hval⟩ | rfl | refine @Exists.intro Bool _ true ?_ | refine @Exists.intro Way _ .call ?_)
    · obtain ⟨a, b, rfl⟩ := len2 (show vs.length = 2 by have : (2 : Int) ≤ args.length := hle; have : (args.length : Int) ≤ 2 := hhi; omega)
      have hra : (([a, b] : List Vl).map Vl.row)[((0 : Nat) : Int).toNat]? = some a.row := rfl
      have hrb : (([a, b] : List Vl).map Vl.row)[((1 : Nat) : Int).toNat]? = some b.row := rfl
      have hcp := c_rcompared 10 a b
      have hof := c_rof (cmpdT 10 a b)
      have hval := hR (ofV (cmpdT 10 a b)) (valR_other (by decide) (ok_of _))
      generalize ofV (cmpdT 10 a b) = V at hof hval
      generalize cmpdT 10 a b = C at hcp hof
      obtain ⟨k, i, t⟩ := V
      obtain ⟨ak, ai, at'⟩ := a
      obtain ⟨bk, bi, bt⟩ := b
      clear hR hare
      refine sem_vc T_ok mixed ?_
      repeat' (first | exact True.intro | apply And.intro | (intro h; exact Bool.noConfusion h) | exact ok_op (by kernel_rfl) | exact ok_tr (by kernel_rfl) | intro _ | refine Exists.intro _ (And.intro (by decide) (And.intro hra (And.intro rfl ?_))) | refine Exists.intro _ (And.intro (by decide) (And.intro hrb (And.intro rfl ?_))) | refine Exists.intro _ (And.intro hcp.afun (And.intro rfl ?_)) | refine Exists.intro _ (And.intro hof.afun (And.intro rfl ?_)) | exact ⟨(⟨_, _, _⟩ : Vl), rfl, hval⟩ | rfl | refine @Exists.intro Bool _ true ?_ | refine @Exists.intro Way _ .call ?_)
    · obtain ⟨a, b, rfl⟩ := len2 (show vs.length = 2 by have : (2 : Int) ≤ args.length := hle; have : (args.length : Int) ≤ 2 := hhi; omega)
      have hra : (([a, b] : List Vl).map Vl.row)[((0 : Nat) : Int).toNat]? = some a.row := rfl
      have hrb : (([a, b] : List Vl).map Vl.row)[((1 : Nat) : Int).toNat]? = some b.row := rfl
      have hcp := c_rcompared 11 a b
      have hof := c_rof (cmpdT 11 a b)
      have hval := hR (ofV (cmpdT 11 a b)) (valR_other (by decide) (ok_of _))
      generalize ofV (cmpdT 11 a b) = V at hof hval
      generalize cmpdT 11 a b = C at hcp hof
      obtain ⟨k, i, t⟩ := V
      obtain ⟨ak, ai, at'⟩ := a
      obtain ⟨bk, bi, bt⟩ := b
      clear hR hare
      refine sem_vc T_ok mixed ?_
      repeat' (first | exact True.intro | apply And.intro | (intro h; exact Bool.noConfusion h) | exact ok_op (by kernel_rfl) | exact ok_tr (by kernel_rfl) | intro _ | refine Exists.intro _ (And.intro (by decide) (And.intro hra (And.intro rfl ?_))) | refine Exists.intro _ (And.intro (by decide) (And.intro hrb (And.intro rfl ?_))) | refine Exists.intro _ (And.intro hcp.afun (And.intro rfl ?_)) | refine Exists.intro _ (And.intro hof.afun (And.intro rfl ?_)) | exact ⟨(⟨_, _, _⟩ : Vl), rfl, hval⟩ | rfl | refine @Exists.intro Bool _ true ?_ | refine @Exists.intro Way _ .call ?_)
    · obtain ⟨a, b, rfl⟩ := len2 (show vs.length = 2 by have : (2 : Int) ≤ args.length := hle; have : (args.length : Int) ≤ 2 := hhi; omega)
      have hra : (([a, b] : List Vl).map Vl.row)[((0 : Nat) : Int).toNat]? = some a.row := rfl
      have hrb : (([a, b] : List Vl).map Vl.row)[((1 : Nat) : Int).toNat]? = some b.row := rfl
      have hcp := c_rcompared 12 a b
      have hof := c_rof (cmpdT 12 a b)
      have hval := hR (ofV (cmpdT 12 a b)) (valR_other (by decide) (ok_of _))
      generalize ofV (cmpdT 12 a b) = V at hof hval
      generalize cmpdT 12 a b = C at hcp hof
      obtain ⟨k, i, t⟩ := V
      obtain ⟨ak, ai, at'⟩ := a
      obtain ⟨bk, bi, bt⟩ := b
      clear hR hare
      refine sem_vc T_ok mixed ?_
      repeat' (first | exact True.intro | apply And.intro | (intro h; exact Bool.noConfusion h) | exact ok_op (by kernel_rfl) | exact ok_tr (by kernel_rfl) | intro _ | refine Exists.intro _ (And.intro (by decide) (And.intro hra (And.intro rfl ?_))) | refine Exists.intro _ (And.intro (by decide) (And.intro hrb (And.intro rfl ?_))) | refine Exists.intro _ (And.intro hcp.afun (And.intro rfl ?_)) | refine Exists.intro _ (And.intro hof.afun (And.intro rfl ?_)) | exact ⟨(⟨_, _, _⟩ : Vl), rfl, hval⟩ | rfl | refine @Exists.intro Bool _ true ?_ | refine @Exists.intro Way _ .call ?_)
    · obtain ⟨a, b, rfl⟩ := len2 (show vs.length = 2 by have : (2 : Int) ≤ args.length := hle; have : (args.length : Int) ≤ 2 := hhi; omega)
      have hra : (([a, b] : List Vl).map Vl.row)[((0 : Nat) : Int).toNat]? = some a.row := rfl
      have hrb : (([a, b] : List Vl).map Vl.row)[((1 : Nat) : Int).toNat]? = some b.row := rfl
      have hnull := hR nullV (valR_other (by decide) ok_null)
      cases hq : areB [a, b] 1 with
      | false =>
        rw [hq] at hare
        obtain ⟨ak, ai, at'⟩ := a
        obtain ⟨bk, bi, bt⟩ := b
        clear hR
        refine sem_vc T_ok mixed ?_
        repeat' (first | exact True.intro | apply And.intro | (intro h; exact Bool.noConfusion h) | exact ok_op (by kernel_rfl) | exact ok_tr (by kernel_rfl) | intro _ | refine callR_of_fun hare.afun rfl ?_ | refine callR_of_fun c_rnull.afun rfl ?_ | exact ⟨nullV, rfl, hnull⟩ | refine Exists.intro _ (And.intro (by decide) (And.intro hra (And.intro rfl ?_))) | refine Exists.intro _ (And.intro (by decide) (And.intro hrb (And.intro rfl ?_))) | rfl | refine @Exists.intro Bool _ true ?_ | refine @Exists.intro Way _ .call ?_)
        all_goals first
          | (exfalso; exact absurd ‹(!false) = false› (by decide))
          | exact hnull
      | true =>
        rw [hq] at hare
        have hoa := (hvo a (by simp)).2 (are_get (j := 0) hq rfl)
        have hob := (hvo b (by simp)).2 (are_get (j := 1) hq rfl)
        obtain ⟨V, hcp, hok⟩ := c_rcomputed 13 a.i b.i (by simp) hoa hob
        have hval := hR V (valR_other (by decide) hok)
        obtain ⟨k, i, t⟩ := V
        obtain ⟨ak, ai, at'⟩ := a
        obtain ⟨bk, bi, bt⟩ := b
        clear hR
        refine sem_vc T_ok mixed ?_
        repeat' (first | exact True.intro | apply And.intro | (intro h; exact Bool.noConfusion h) | exact ok_op (by kernel_rfl) | exact ok_tr (by kernel_rfl) | intro _ | refine callR_of_fun hare.afun rfl ?_ | refine callR_of_fun c_rnull.afun rfl ?_ | refine Exists.intro _ (And.intro (by decide) (And.intro hra (And.intro rfl ?_))) | refine Exists.intro _ (And.intro (by decide) (And.intro hrb (And.intro rfl ?_))) | refine Exists.intro _ (And.intro hcp.afun (And.intro rfl ?_)) | exact ⟨(⟨_, _, _⟩ : Vl), rfl, hval⟩ | rfl | refine @Exists.intro Bool _ true ?_ | refine @Exists.intro Way _ .call ?_)
        all_goals (exfalso; exact absurd ‹(!true) = true› (by decide))
    · obtain ⟨a, b, rfl⟩ := len2 (show vs.length = 2 by have : (2 : Int) ≤ args.length := hle; have : (args.length : Int) ≤ 2 := hhi; omega)
      have hra : (([a, b] : List Vl).map Vl.row)[((0 : Nat) : Int).toNat]? = some a.row := rfl
      have hrb : (([a, b] : List Vl).map Vl.row)[((1 : Nat) : Int).toNat]? = some b.row := rfl
      have hnull := hR nullV (valR_other (by decide) ok_null)
      cases hq : areB [a, b] 1 with
      | false =>
        rw [hq] at hare
        obtain ⟨ak, ai, at'⟩ := a
        obtain ⟨bk, bi, bt⟩ := b
        clear hR
        refine sem_vc T_ok mixed ?_
        repeat' (first | exact True.intro | apply And.intro | (intro h; exact Bool.noConfusion h) | exact ok_op (by kernel_rfl) | exact ok_tr (by kernel_rfl) | intro _ | refine callR_of_fun hare.afun rfl ?_ | refine callR_of_fun c_rnull.afun rfl ?_ | exact ⟨nullV, rfl, hnull⟩ | refine Exists.intro _ (And.intro (by decide) (And.intro hra (And.intro rfl ?_))) | refine Exists.intro _ (And.intro (by decide) (And.intro hrb (And.intro rfl ?_))) | rfl | refine @Exists.intro Bool _ true ?_ | refine @Exists.intro Way _ .call ?_)
        all_goals first
          | (exfalso; exact absurd ‹(!false) = false› (by decide))
          | exact hnull
      | true =>
        rw [hq] at hare
        have hoa := (hvo a (by simp)).2 (are_get (j := 0) hq rfl)
        have hob := (hvo b (by simp)).2 (are_get (j := 1) hq rfl)
        obtain ⟨V, hcp, hok⟩ := c_rcomputed 14 a.i b.i (by simp) hoa hob
        have hval := hR V (valR_other (by decide) hok)
        obtain ⟨k, i, t⟩ := V
        obtain ⟨ak, ai, at'⟩ := a
        obtain ⟨bk, bi, bt⟩ := b
        clear hR
        refine sem_vc T_ok mixed ?_
        repeat' (first | exact True.intro | apply And.intro | (intro h; exact Bool.noConfusion h) | exact ok_op (by kernel_rfl) | exact ok_tr (by kernel_rfl) | intro _ | refine callR_of_fun hare.afun rfl ?_ | refine callR_of_fun c_rnull.afun rfl ?_ | refine Exists.intro _ (And.intro (by decide) (And.intro hra (And.intro rfl ?_))) | refine Exists.intro _ (And.intro (by decide) (And.intro hrb (And.intro rfl ?_))) | refine Exists.intro _ (And.intro hcp.afun (And.intro rfl ?_)) | exact ⟨(⟨_, _, _⟩ : Vl), rfl, hval⟩ | rfl | refine @Exists.intro Bool _ true ?_ | refine @Exists.intro Way _ .call ?_)
        all_goals (exfalso; exact absurd ‹(!true) = true› (by decide))
    · obtain ⟨a, b, rfl⟩ := len2 (show vs.length = 2 by have : (2 : Int) ≤ args.length := hle; have : (args.length : Int) ≤ 2 := hhi; omega)
      have hra : (([a, b] : List Vl).map Vl.row)[((0 : Nat) : Int).toNat]? = some a.row := rfl
      have hrb : (([a, b] : List Vl).map Vl.row)[((1 : Nat) : Int).toNat]? = some b.row := rfl
      have hnull := hR nullV (valR_other (by decide) ok_null)
      cases hq : areB [a, b] 1 with
      | false =>
        rw [hq] at hare
        obtain ⟨ak, ai, at'⟩ := a
        obtain ⟨bk, bi, bt⟩ := b
        clear hR
        refine sem_vc T_ok mixed ?_
        repeat' (first | exact True.intro | apply And.intro | (intro h; exact Bool.noConfusion h) | exact ok_op (by kernel_rfl) | exact ok_tr (by kernel_rfl) | intro _ | refine callR_of_fun hare.afun rfl ?_ | refine callR_of_fun c_rnull.afun rfl ?_ | exact ⟨nullV, rfl, hnull⟩ | refine Exists.intro _ (And.intro (by decide) (And.intro hra (And.intro rfl ?_))) | refine Exists.intro _ (And.intro (by decide) (And.intro hrb (And.intro rfl ?_))) | rfl | refine @Exists.intro Bool _ true ?_ | refine @Exists.intro Way _ .call ?_)
        all_goals first
          | (exfalso; exact absurd ‹(!false) = false› (by decide))
          | exact hnull
      | true =>
        rw [hq] at hare
        have hoa := (hvo a (by simp)).2 (are_get (j := 0) hq rfl)
        have hob := (hvo b (by simp)).2 (are_get (j := 1) hq rfl)
        obtain ⟨V, hcp, hok⟩ := c_rcomputed 15 a.i b.i (by simp) hoa hob
        have hval := hR V (valR_other (by decide) hok)
        obtain ⟨k, i, t⟩ := V
        obtain ⟨ak, ai, at'⟩ := a
        obtain ⟨bk, bi, bt⟩ := b
        clear hR
        refine sem_vc T_ok mixed ?_
        repeat' (first | exact True.intro | apply And.intro | (intro h; exact Bool.noConfusion h) | exact ok_op (by kernel_rfl) | exact ok_tr (by kernel_rfl) | intro _ | refine callR_of_fun hare.afun rfl ?_ | refine callR_of_fun c_rnull.afun rfl ?_ | refine Exists.intro _ (And.intro (by decide) (And.intro hra (And.intro rfl ?_))) | refine Exists.intro _ (And.intro (by decide) (And.intro hrb (And.intro rfl ?_))) | refine Exists.intro _ (And.intro hcp.afun (And.intro rfl ?_)) | exact ⟨(⟨_, _, _⟩ : Vl), rfl, hval⟩ | rfl | refine @Exists.intro Bool _ true ?_ | refine @Exists.intro Way _ .call ?_)
        all_goals (exfalso; exact absurd ‹(!true) = true› (by decide))
    · obtain ⟨a, b, rfl⟩ := len2 (show vs.length = 2 by have : (2 : Int) ≤ args.length := hle; have : (args.length : Int) ≤ 2 := hhi; omega)
      have hra : (([a, b] : List Vl).map Vl.row)[((0 : Nat) : Int).toNat]? = some a.row := rfl
      have hrb : (([a, b] : List Vl).map Vl.row)[((1 : Nat) : Int).toNat]? = some b.row := rfl
      have hnull := hR nullV (valR_other (by decide) ok_null)
      cases hq : areB [a, b] 1 with
      | false =>
        rw [hq] at hare
        obtain ⟨ak, ai, at'⟩ := a
        obtain ⟨bk, bi, bt⟩ := b
        clear hR
        refine sem_vc T_ok mixed ?_
        repeat' (first | exact True.intro | apply And.intro | (intro h; exact Bool.noConfusion h) | exact ok_op (by kernel_rfl) | exact ok_tr (by kernel_rfl) | intro _ | refine callR_of_fun hare.afun rfl ?_ | refine callR_of_fun c_rnull.afun rfl ?_ | exact ⟨nullV, rfl, hnull⟩ | refine Exists.intro _ (And.intro (by decide) (And.intro hra (And.intro rfl ?_))) | refine Exists.intro _ (And.intro (by decide) (And.intro hrb (And.intro rfl ?_))) | rfl | refine @Exists.intro Bool _ true ?_ | refine @Exists.intro Way _ .call ?_)
        all_goals first
          | (exfalso; exact absurd ‹(!false) = false› (by decide))
          | exact hnull
      | true =>
        rw [hq] at hare
        have hoa := (hvo a (by simp)).2 (are_get (j := 0) hq rfl)
        have hob := (hvo b (by simp)).2 (are_get (j := 1) hq rfl)
        obtain ⟨V, hcp, hok⟩ := c_rcomputed 16 a.i b.i (by simp) hoa hob
        have hval := hR V (valR_other (by decide) hok)
        obtain ⟨k, i, t⟩ := V
        obtain ⟨ak, ai, at'⟩ := a
        obtain ⟨bk, bi, bt⟩ := b
        clear hR
        refine sem_vc T_ok mixed ?_
        repeat' (first | exact True.intro | apply And.intro | (intro h; exact Bool.noConfusion h) | exact ok_op (by kernel_rfl) | exact ok_tr (by kernel_rfl) | intro _ | refine callR_of_fun hare.afun rfl ?_ | refine callR_of_fun c_rnull.afun rfl ?_ | refine Exists.intro _ (And.intro (by decide) (And.intro hra (And.intro rfl ?_))) | refine Exists.intro _ (And.intro (by decide) (And.intro hrb (And.intro rfl ?_))) | refine Exists.intro _ (And.intro hcp.afun (And.intro rfl ?_)) | exact ⟨(⟨_, _, _⟩ : Vl), rfl, hval⟩ | rfl | refine @Exists.intro Bool _ true ?_ | refine @Exists.intro Way _ .call ?_)
        all_goals (exfalso; exact absurd ‹(!true) = true› (by decide))
    · obtain ⟨a, b, rfl⟩ := len2 (show vs.length = 2 by have : (2 : Int) ≤ args.length := hle; have : (args.length : Int) ≤ 2 := hhi; omega)
      have hra : (([a, b] : List Vl).map Vl.row)[((0 : Nat) : Int).toNat]? = some a.row := rfl
      have hrb : (([a, b] : List Vl).map Vl.row)[((1 : Nat) : Int).toNat]? = some b.row := rfl
      have hnull := hR nullV (valR_other (by decide) ok_null)
      cases hq : areB [a, b] 1 with
      | false =>
        rw [hq] at hare
        obtain ⟨ak, ai, at'⟩ := a
        obtain ⟨bk, bi, bt⟩ := b
        clear hR
        refine sem_vc T_ok mixed ?_
        repeat' (first | exact True.intro | apply And.intro | (intro h; exact Bool.noConfusion h) | exact ok_op (by kernel_rfl) | exact ok_tr (by kernel_rfl) | intro _ | refine callR_of_fun hare.afun rfl ?_ | refine callR_of_fun c_rnull.afun rfl ?_ | exact ⟨nullV, rfl, hnull⟩ | refine Exists.intro _ (And.intro (by decide) (And.intro hra (And.intro rfl ?_))) | refine Exists.intro _ (And.intro (by decide) (And.intro hrb (And.intro rfl ?_))) | rfl | refine @Exists.intro Bool _ true ?_ | refine @Exists.intro Way _ .call ?_)
        all_goals first
          | (exfalso; exact absurd ‹(!false) = false› (by decide))
          | exact hnull
      | true =>
        rw [hq] at hare
        have hoa := (hvo a (by simp)).2 (are_get (j := 0) hq rfl)
        have hob := (hvo b (by simp)).2 (are_get (j := 1) hq rfl)
        obtain ⟨V, hcp, hok⟩ := c_rcomputed 17 a.i b.i (by simp) hoa hob
        have hval := hR V (valR_other (by decide) hok)
        obtain ⟨k, i, t⟩ := V
        obtain ⟨ak, ai, at'⟩ := a
        obtain ⟨bk, bi, bt⟩ := b
        clear hR
        refine sem_vc T_ok mixed ?_
        repeat' (first | exact True.intro | apply And.intro | (intro h; exact Bool.noConfusion h) | exact ok_op (by kernel_rfl) | exact ok_tr (by kernel_rfl) | intro _ | refine callR_of_fun hare.afun rfl ?_ | refine callR_of_fun c_rnull.afun rfl ?_ | refine Exists.intro _ (And.intro (by decide) (And.intro hra (And.intro rfl ?_))) | refine Exists.intro _ (And.intro (by decide) (And.intro hrb (And.intro rfl ?_))) | refine Exists.intro _ (And.intro hcp.afun (And.intro rfl ?_)) | exact ⟨(⟨_, _, _⟩ : Vl), rfl, hval⟩ | rfl | refine @Exists.intro Bool _ true ?_ | refine @Exists.intro Way _ .call ?_)
        all_goals (exfalso; exact absurd ‹(!true) = true› (by decide))
    · obtain ⟨a, r, rfl⟩ := len1 (show 1 ≤ vs.length by have : (1 : Int) ≤ args.length := hle; omega)
      have hra : ((a :: r).map Vl.row)[((0 : Nat) : Int).toNat]? = some a.row := rfl
      have hnull := hR nullV (valR_other (by decide) ok_null)
      have hval := hR (validOr ⟨1, IntKind.i64.wrap (0 - a.i), emp⟩) (valR_other (by decide) (ok_validOr _))
      have hin := c_rint (IntKind.i64.wrap (0 - a.i))
      generalize validOr ⟨1, IntKind.i64.wrap (0 - a.i), emp⟩ = V at hin hval
      obtain ⟨k, i, t⟩ := V
      generalize areB (a :: r) 1 = q at hare
      obtain ⟨ak, ai, at'⟩ := a
      clear hR
      refine sem_vc T_ok mixed ?_
      cases q <;> repeat' (first | exact True.intro | apply And.intro | (intro h; exact Bool.noConfusion h) | exact ok_op (by kernel_rfl) | exact ok_tr (by kernel_rfl) | intro _ | refine callR_of_fun hare.afun rfl ?_ | refine callR_of_fun c_rnull.afun rfl ?_ | refine callR_of_fun hin.afun rfl ?_ | refine Exists.intro _ (And.intro (by decide) (And.intro hra (And.intro rfl ?_))) | exact ⟨(⟨_, _, _⟩ : Vl), rfl, hval⟩ | exact ⟨nullV, rfl, hnull⟩ | rfl | refine @Exists.intro Bool _ true ?_ | refine @Exists.intro Way _ .call ?_)
      all_goals first
        | (exfalso; exact absurd ‹(!false) = false› (by decide))
        | (exfalso; exact absurd ‹(!true) = true› (by decide))
        | exact hnull
    · have htx := c_rtexts 19 vs hvl' (show 1 ≤ vs.length by have : (2 : Int) ≤ args.length := hle; omega) (fun _ => (show 2 ≤ vs.length by have : (2 : Int) ≤ args.length := hle; omega)) hvo
      clear hare
      refine sem_vc T_ok mixed ?_
      repeat' (first | exact True.intro | apply And.intro | (intro h; exact Bool.noConfusion h) | exact ok_op (by kernel_rfl) | exact ok_tr (by kernel_rfl) | intro _ | refine callR_of_someV htx rfl ?_ | exact ⟨(⟨_, _, _⟩ : Vl), rfl, hR _ (valR_other (by decide) (by assumption))⟩ | rfl | refine @Exists.intro Bool _ true ?_ | refine @Exists.intro Way _ .call ?_)
    · have htx := c_rtexts 20 vs hvl' (show 1 ≤ vs.length by have : (1 : Int) ≤ args.length := hle; omega) (fun h => absurd h (by decide)) hvo
      clear hare
      refine sem_vc T_ok mixed ?_
      repeat' (first | exact True.intro | apply And.intro | (intro h; exact Bool.noConfusion h) | exact ok_op (by kernel_rfl) | exact ok_tr (by kernel_rfl) | intro _ | refine callR_of_someV htx rfl ?_ | exact ⟨(⟨_, _, _⟩ : Vl), rfl, hR _ (valR_other (by decide) (by assumption))⟩ | rfl | refine @Exists.intro Bool _ true ?_ | refine @Exists.intro Way _ .call ?_)
    · obtain ⟨a, r, rfl⟩ := len1 (show 1 ≤ vs.length by have : (1 : Int) ≤ args.length := hle; omega)
      have hra : ((a :: r).map Vl.row)[((0 : Nat) : Int).toNat]? = some a.row := rfl
      have hbl := c_rbool (a.k == 0)
      have hval := hR (boolV (a.k == 0)) (valR_other (by decide) (ok_bool _))
      generalize hV : boolV (a.k == 0) = V at hbl hval
      obtain ⟨ak, ai, at'⟩ := a
      obtain ⟨k, i, t⟩ := V
      clear hR hare
      refine sem_vc T_ok mixed ?_
      repeat' (first | exact True.intro | apply And.intro | (intro h; exact Bool.noConfusion h) | exact ok_op (by kernel_rfl) | exact ok_tr (by kernel_rfl) | intro _ | refine Exists.intro _ (And.intro (by decide) (And.intro hra (And.intro rfl ?_))) | refine callR_of_fun hbl.afun rfl ?_ | exact ⟨(⟨_, _, _⟩ : Vl), rfl, hval⟩ | rfl | refine @Exists.intro Bool _ true ?_ | refine @Exists.intro Way _ .call ?_)
    · have htx := c_rchosen11 22 vs hvl' (fun _ => (show 3 ≤ vs.length by have : (3 : Int) ≤ args.length := hle; omega)) hvo
      clear hare
      refine sem_vc T_ok mixed ?_
      repeat' (first | exact True.intro | apply And.intro | (intro h; exact Bool.noConfusion h) | exact ok_op (by kernel_rfl) | exact ok_tr (by kernel_rfl) | intro _ | refine callR_of_someV htx rfl ?_ | exact ⟨(⟨_, _, _⟩ : Vl), rfl, hR _ (valR_other (by decide) (by assumption))⟩ | rfl | refine @Exists.intro Bool _ true ?_ | refine @Exists.intro Way _ .call ?_)
    · have htx := c_rchosen11 23 vs hvl' (fun h => absurd h (by decide)) hvo
      clear hare
      refine sem_vc T_ok mixed ?_
      repeat' (first | exact True.intro | apply And.intro | (intro h; exact Bool.noConfusion h) | exact ok_op (by kernel_rfl) | exact ok_tr (by kernel_rfl) | intro _ | refine callR_of_someV htx rfl ?_ | exact ⟨(⟨_, _, _⟩ : Vl), rfl, hR _ (valR_other (by decide) (by assumption))⟩ | rfl | refine @Exists.intro Bool _ true ?_ | refine @Exists.intro Way _ .call ?_)
    · have htx := c_rrelated n vs hvl' (show 4 ≤ vs.length by have : (4 : Int) ≤ args.length := hle; omega)
      clear hare
      refine sem_vc T_ok mixed ?_
      repeat' (first | exact True.intro | apply And.intro | (intro h; exact Bool.noConfusion h) | exact ok_op (by kernel_rfl) | exact ok_tr (by kernel_rfl) | intro _ | refine callR_of_someV htx rfl ?_ | exact ⟨(⟨_, _, _⟩ : Vl), rfl, hR _ (valR_other (by decide) (by assumption))⟩ | rfl | refine @Exists.intro Bool _ true ?_ | refine @Exists.intro Way _ .call ?_)
end Go.Proofs.YtijjagkeaehhbaaGreat.Eng

/- What the keys of rows, the kinds of paths and both Matches compute. Each function's arguments are its condition. -/
set_option linter.unusedSimpArgs false
set_option linter.unusedVariables false
namespace Go.Proofs.YtijjagkeaehhbaaGreat.Eng
open Go.RowKit (Below)

theorem c_rpick (row : List Vl) (ks : List Int) (hk : ks.length ≤ 1099511627776) : AFunR Tryz.prog 142 [vlA row, .pv (.vs 1 (keyRows ks))] (fun r => r = vlA (keyV row ks)) := by
  have hklen : (keyRows ks).length = ks.length := List.length_map ..
  refine afun_body T_ok mixed Tryz.func142 rfl (ent_of Tryz.func142 rfl rfl) (Nat.le_of_ble_eq_true rfl) ?_
  repeat' (first | exact True.intro | apply And.intro | (intro h; exact Bool.noConfusion h) | exact ok_op (by kernel_rfl) | exact ok_tr (by kernel_rfl) | intro _ | refine @Exists.intro Bool _ true ?_ | refine @Exists.intro Way _ .call ?_)
  refine ⟨fun m st => ∃ (j : Nat) (out : List (List PV)), j ≤ ks.length ∧ out = (keyV row (ks.take j)).map Vl.row ∧ m = ks.length - j ∧ st = AS.on [(0, vlA row), (1, .pv (.vs 1 (keyRows ks))), (5, .lv (.sl 0)), (6, .i j)] [(0, .row 29 3 out)] 1 24 0 (fun _ => false), ⟨ks.length, _, ⟨0, [], Nat.zero_le _, rfl, rfl, rfl⟩, ?_⟩, ?_⟩
  · refine weak_on rfl rfl rfl rfl ?_ ?_
    · repeat' (first | exact True.intro | apply And.intro | (intro h; exact Bool.noConfusion h) | exact ok_op (by kernel_rfl) | exact ok_tr (by kernel_rfl) | intro _ | rfl | refine @Exists.intro Bool _ true ?_ | refine @Exists.intro Way _ .call ?_)
    · repeat' (first | exact True.intro | apply And.intro | (intro h; exact Bool.noConfusion h) | exact ok_op (by kernel_rfl) | exact ok_tr (by kernel_rfl) | intro _ | rfl | refine Exists.intro _ (And.intro rfl ?_) | refine @Exists.intro Bool _ true ?_ | refine @Exists.intro Way _ .call ?_)
  · rintro m st ⟨j, out, hj, hout, rfl, rfl⟩
    by_cases hlt : j < ks.length
    · obtain ⟨k, hk1⟩ : ∃ k, ks[j]? = some k := ⟨_, List.getElem?_eq_getElem hlt⟩
      have hrow := keyRow_get hk1
      have hat := c_rat row k
      have hlen : out.length = j := by rw [hout, List.length_map, keyV, List.length_map, List.length_take]; omega
      have hnext : out ++ [(pickV row k).row] = (keyV row (ks.take (j + 1))).map Vl.row := by
        rw [List.take_add_one, hk1, hout]
        simp [keyV]
      generalize pickV row k = v at hat hnext
      obtain ⟨vk, vi, vt⟩ := v
      repeat' (first | exact True.intro | apply And.intro | (intro h; exact Bool.noConfusion h) | exact ok_op (by kernel_rfl) | exact ok_tr (by kernel_rfl) | intro _ | refine Exists.intro _ (And.intro (Int.natCast_nonneg j) (And.intro hrow (And.intro rfl ?_))) | refine callR_of_fun hat.afun rfl ?_ | refine @Exists.intro Bool _ false ?_ | rfl | (simp only [chunk, List.length_cons, List.length_nil, ti29]; omega) | refine @Exists.intro Bool _ true ?_ | refine @Exists.intro Way _ .call ?_)
      all_goals first
        | (exfalso; have := of_decide_eq_false ‹decide ((j : Int) < (keyRows ks).length) = false›; omega)
        | skip
      refine ⟨ks.length - (j + 1), _, by omega, ⟨j + 1, _, hlt, hnext, rfl, rfl⟩, ?_⟩
      refine weak_on rfl rfl rfl rfl ?_ ?_
      · repeat' (first | exact True.intro | apply And.intro | (intro h; exact Bool.noConfusion h) | exact ok_op (by kernel_rfl) | exact ok_tr (by kernel_rfl) | intro _ | rfl | (apply fin_i; rw [wrap_id] <;> omega) | refine @Exists.intro Bool _ true ?_ | refine @Exists.intro Way _ .call ?_)
      · repeat' (first | exact True.intro | apply And.intro | (intro h; exact Bool.noConfusion h) | exact ok_op (by kernel_rfl) | exact ok_tr (by kernel_rfl) | intro _ | rfl | refine Exists.intro _ (And.intro rfl ?_) | refine @Exists.intro Bool _ true ?_ | refine @Exists.intro Way _ .call ?_)
    · have hje : j = ks.length := by omega
      subst hje
      rw [List.take_length] at hout
      subst hout
      repeat' (first | exact True.intro | apply And.intro | (intro h; exact Bool.noConfusion h) | exact ok_op (by kernel_rfl) | exact ok_tr (by kernel_rfl) | intro _ | exact rfl | refine @Exists.intro Bool _ true ?_ | refine @Exists.intro Way _ .call ?_)
      all_goals (exfalso; have := of_decide_eq_true ‹decide ((ks.length : Int) < (keyRows ks).length) = true›; omega)

theorem c_key (nm cols : PV) (ks : List Int) (fo ch : PV) (row : List Vl) (hk : ks.length ≤ 1099511627776) : AFunR Tryz.prog 40 [tabA nm cols ks fo ch, vlA row] (fun r => r = vlA (keyV row ks)) := by
  have h := c_pick row ks hk
  refine afun_body T_ok mixed Tryz.func40 rfl (ent_of Tryz.func40 rfl rfl) (Nat.le_of_ble_eq_true rfl) ?_
  repeat' (first | exact True.intro | apply And.intro | (intro h; exact Bool.noConfusion h) | exact ok_op (by kernel_rfl) | exact ok_tr (by kernel_rfl) | intro _ | refine callR_of_fun h.afun rfl ?_ | exact rfl | refine @Exists.intro Bool _ true ?_ | refine @Exists.intro Way _ .call ?_)
theorem c_rkey (nm cols : PV) (ks : List Int) (fo ch : PV) (row : List Vl) (hk : ks.length ≤ 1099511627776) : AFunR Tryz.prog 93 [tabA nm cols ks fo ch, vlA row] (fun r => r = vlA (keyV row ks)) := by
  have h := c_rpick row ks hk
  refine afun_body T_ok mixed Tryz.func93 rfl (ent_of Tryz.func93 rfl rfl) (Nat.le_of_ble_eq_true rfl) ?_
  repeat' (first | exact True.intro | apply And.intro | (intro h; exact Bool.noConfusion h) | exact ok_op (by kernel_rfl) | exact ok_tr (by kernel_rfl) | intro _ | refine callR_of_fun h.afun rfl ?_ | exact rfl | refine @Exists.intro Bool _ true ?_ | refine @Exists.intro Way _ .call ?_)

/-- Whether a key begins with some values. -/
def startsB (key vs : List Vl) : Bool := decide (vs.length ≤ key.length) && (rcmpR (key.take vs.length) vs == 0)
theorem take_row (a : List Vl) (n : Nat) : ((a.map Vl.row).take n).drop 0 = (a.take n).map Vl.row := by rw [List.drop_zero, ← List.map_take]
theorem c_starts (a b : List Vl) (ha : a.length ≤ 9223372036854775807) (hb : b.length ≤ 9223372036854775807) : AFunR Tryz.prog 92 [vlA a, vlA b] (fun r => r = .b (startsB a b)) := by
  have hla : (a.map Vl.row).length = a.length := List.length_map ..
  have hlb : (b.map Vl.row).length = b.length := List.length_map ..
  have he := c_requal (a.take b.length) b (by rw [List.length_take]; omega) hb
  rw [vlA, ← take_row, ← hlb] at he
  refine afun_body T_ok mixed Tryz.func92 rfl (ent_of Tryz.func92 rfl rfl) (Nat.le_of_ble_eq_true rfl) ?_
  by_cases hle : b.length ≤ a.length
  · repeat' (first | exact True.intro | apply And.intro | (intro h; exact Bool.noConfusion h) | exact ok_op (by kernel_rfl) | exact ok_tr (by kernel_rfl) | intro _ | refine callR_of_fun he.afun rfl ?_ | refine Exists.intro _ (And.intro (pure_slice (l := 0) (h := (b.map Vl.row).length) rfl Tryz.underlying36 (by kernel_rfl) (by kernel_rfl) rfl (Exists.intro _ rfl) (Nat.zero_le _) (by omega)) ?_) | apply fin_b | refine @Exists.intro Bool _ true ?_ | refine @Exists.intro Way _ .call ?_)
    · simp [startsB, hle, hlb]
    · exfalso
      have := ‹decide (((b.map Vl.row).length : Int) ≤ (a.map Vl.row).length) = !true›
      simp at this
      omega
  · repeat' (first | exact True.intro | apply And.intro | (intro h; exact Bool.noConfusion h) | exact ok_op (by kernel_rfl) | exact ok_tr (by kernel_rfl) | intro _ | apply fin_b | refine @Exists.intro Bool _ true ?_ | refine @Exists.intro Way _ .call ?_)
    · exfalso
      have := of_decide_eq_true ‹decide (((b.map Vl.row).length : Int) ≤ (a.map Vl.row).length) = true›
      omega
    · simp [startsB, hle]

abbrev verA (x y : PV) (row : List Vl) (v0 v1 s0 s1 : Int) (z u : PV) : AV := .agg [.pv x, .pv y, .pv (.vs 3 (row.map Vl.row)), li v0, li v1, li s0, li s1, .pv z, .pv u]
section
variable (nm cols : PV) (ks : List Int) (fo ch : PV) (x y : PV) (row : List Vl) (v0 v1 s0 s1 : Int) (z u : PV)

theorem c_hasScan : AFunR Tryz.prog 241 [.agg (pvs []), tabA nm cols ks fo ch, verA x y row v0 v1 s0 s1 z u] (fun r => r = .b true) := by
  refine afun_body T_ok mixed Tryz.func241 rfl (ent_of Tryz.func241 rfl rfl) (Nat.le_of_ble_eq_true rfl) ?_
  repeat' (first | exact True.intro | apply And.intro | (intro h; exact Bool.noConfusion h) | exact ok_op (by kernel_rfl) | exact ok_tr (by kernel_rfl) | intro _ | apply fin_b | refine @Exists.intro Bool _ true ?_ | refine @Exists.intro Way _ .call ?_)
  all_goals rfl
theorem c_hasValid (a b : Int) : AFunR Tryz.prog 218 [.agg (pvs [I a, I b]), tabA nm cols ks fo ch, verA x y row v0 v1 s0 s1 z u] (fun r => r = .b (overB v0 v1 a b)) := by
  refine afun_body T_ok mixed Tryz.func218 rfl (ent_of Tryz.func218 rfl rfl) (Nat.le_of_ble_eq_true rfl) ?_
  repeat' (first | exact True.intro | apply And.intro | (intro h; exact Bool.noConfusion h) | exact ok_op (by kernel_rfl) | exact ok_tr (by kernel_rfl) | intro _ | refine callR_of_fun (c_overlaps _ _ _ _).afun rfl ?_ | apply fin_b | refine @Exists.intro Bool _ true ?_ | refine @Exists.intro Way _ .call ?_)
  all_goals rfl
theorem c_hasRect (a b c d : Int) : AFunR Tryz.prog 223 [.agg (pvs [I a, I b, I c, I d]), tabA nm cols ks fo ch, verA x y row v0 v1 s0 s1 z u] (fun r => r = .b (overB v0 v1 a b && overB s0 s1 c d)) := by
  refine afun_body T_ok mixed Tryz.func223 rfl (ent_of Tryz.func223 rfl rfl) (Nat.le_of_ble_eq_true rfl) ?_
  repeat' (first | exact True.intro | apply And.intro | (intro h; exact Bool.noConfusion h) | exact ok_op (by kernel_rfl) | exact ok_tr (by kernel_rfl) | intro _ | refine callR_of_fun (c_overlaps _ _ _ _).afun rfl ?_ | apply fin_b | refine @Exists.intro Bool _ true ?_ | refine @Exists.intro Way _ .call ?_)
  all_goals simp_all
set_option maxRecDepth 20000 in
theorem c_hasKeyed (key : List Vl) (hk : ks.length ≤ 1099511627776) (hkey : key.length ≤ 9223372036854775807) : AFunR Tryz.prog 231 [.agg (pvs [.vs 3 (key.map Vl.row)]), tabA nm cols ks fo ch, verA x y row v0 v1 s0 s1 z u] (fun r => r = .b (startsB (keyV row ks) key)) := by
  have hkk := c_key nm cols ks fo ch row hk
  have hkl : (keyV row ks).length = ks.length := List.length_map ..
  generalize keyV row ks = kv at hkk hkl ⊢
  have hla : (kv.map Vl.row).length = kv.length := List.length_map ..
  have hlb : (key.map Vl.row).length = key.length := List.length_map ..
  have he := c_tcmp (kv.take key.length) key (by rw [List.length_take]; omega) hkey
  rw [vlA, ← take_row, ← hlb] at he
  refine afun_body T_ok mixed Tryz.func231 rfl (ent_of Tryz.func231 rfl rfl) (Nat.le_of_ble_eq_true rfl) ?_
  by_cases hle : key.length ≤ kv.length
  · repeat' (first | exact True.intro | apply And.intro | (intro h; exact Bool.noConfusion h) | exact ok_op (by kernel_rfl) | exact ok_tr (by kernel_rfl) | intro _ | refine callR_of_fun hkk.afun rfl ?_ | refine Exists.intro _ (And.intro he.afun (And.intro rfl ?_)) | refine Exists.intro _ (And.intro (pure_slice (l := 0) (h := (key.map Vl.row).length) rfl Tryz.underlying36 (by kernel_rfl) (by kernel_rfl) rfl (Exists.intro _ rfl) (Nat.zero_le _) (by omega)) ?_) | apply fin_b | refine @Exists.intro Bool _ true ?_ | refine @Exists.intro Way _ .call ?_)
    all_goals first
      | (exfalso
         have := ‹decide (((kv.map Vl.row).length : Int) ≥ (key.map Vl.row).length) = !true›
         simp at this
         omega)
      | (rw [rcmp_eq0]; simp [startsB, hle, hlb])
  · repeat' (first | exact True.intro | apply And.intro | (intro h; exact Bool.noConfusion h) | exact ok_op (by kernel_rfl) | exact ok_tr (by kernel_rfl) | intro _ | refine callR_of_fun hkk.afun rfl ?_ | refine Exists.intro _ (And.intro he.afun (And.intro rfl ?_)) | apply fin_b | rfl | refine @Exists.intro Bool _ true ?_ | refine @Exists.intro Way _ .call ?_)
    all_goals first
      | (exfalso
         have := of_decide_eq_true ‹decide (((kv.map Vl.row).length : Int) ≥ (key.map Vl.row).length) = true›
         omega)
      | simp [startsB, hle]

/-- Whether a path contains a version. -/
def matchesB (k : Int) (key : List Vl) (a b c d : Int) : Bool :=
  if k = 0 then true else if k = 1 then startsB (keyV row ks) key else if k = 2 then overB v0 v1 a b else if k = 3 then overB v0 v1 a b && overB s0 s1 c d else false
end
end Go.Proofs.YtijjagkeaehhbaaGreat.Eng

/- What the reference's Choose computes: the program's choice. Each function's arguments and the stated bounds are its condition. -/
set_option linter.unusedSimpArgs false
set_option linter.unusedVariables false
namespace Go.Proofs.YtijjagkeaehhbaaGreat.Eng
open Go.RowKit (Below)

theorem find_no {cds : List Cd} {col : Int} (h : ∀ (i : Nat) c, cds[i]? = some c → isEq col c = false) : cds.find? (isEq col) = none := by
  rw [List.find?_eq_none]
  intro c hc
  obtain ⟨i, hi⟩ := List.getElem?_of_mem hc
  rw [h i c hi]
  simp
theorem find_yes {cds : List Cd} {col : Int} {j : Nat} {c : Cd} (hj : cds[j]? = some c) (hc : isEq col c = true) (h : ∀ (i : Nat) c, i < j → cds[i]? = some c → isEq col c = false) : cds.find? (isEq col) = some c := by
  obtain ⟨hlt, he⟩ := List.getElem?_eq_some_iff.1 hj
  rw [List.find?_eq_some_iff_getElem]
  refine ⟨hc, j, hlt, he, fun i hi => ?_⟩
  rw [h i _ hi (List.getElem?_eq_getElem (Nat.lt_trans hi hlt))]
  rfl
def eqA (o : Option Cd) : AV := match o with
  | some c => .tup [.agg [li c.k, li c.i, .pv (.str c.t)], .lf (.pv (.bool true))]
  | none => .tup [.agg [li 0, li 0, .pv (.str ⟨#[]⟩)], .lf (.pv (.bool false))]
theorem c_rsystem (k a b : Int) : AFunR Tryz.prog 9 [.agg [li k, li a, li b]] (fun r => r = per (sysF k a b).1 (sysF k a b).2) := by
  refine afun_body T_ok mixed Tryz.func9 rfl (ent_of Tryz.func9 rfl rfl) (Nat.le_of_ble_eq_true rfl) ?_
  repeat' (first | exact True.intro | apply And.intro | (intro h; exact Bool.noConfusion h) | exact ok_op (by kernel_rfl) | exact ok_tr (by kernel_rfl) | intro _ | apply fin_per | refine @Exists.intro Bool _ true ?_ | refine @Exists.intro Way _ .call ?_)
  all_goals (unfold sysF; simp_all)

end Go.Proofs.YtijjagkeaehhbaaGreat.Eng

/- AccessChooses returns true for every table, expression, clause and period within the stated bounds. -/
set_option linter.unusedSimpArgs false
set_option linter.unusedVariables false
namespace Go.Proofs.YtijjagkeaehhbaaGreat.Eng
open Go.RowKit (Below)

theorem pfx_vl (cds : List Cd) : ∀ ks : List Int, ∃ l : List Vl, pfx cds ks = l.map Vl.row ∧ l.length ≤ ks.length
  | [] => ⟨[], rfl, Nat.le_refl _⟩
  | k :: r => by
    obtain ⟨l, h1, h2⟩ := pfx_vl cds r
    rw [pfx]
    split
    · rename_i c hc
      exact ⟨⟨c.k, c.i, c.t⟩ :: l, by rw [h1]; rfl, by simpa using h2⟩
    · exact ⟨[], rfl, Nat.zero_le _⟩
theorem path_nil (k a b c d : Int) : PLes [I k, .nils, I a, I b, I c, I d] [I k, .vs 3 ([] : List (List PV)), I a, I b, I c, I d] := .cons (.rfl _) (.cons (.nils 3) (.cons (.rfl _) (.cons (.rfl _) (.cons (.rfl _) (.cons (.rfl _) .nil)))))
theorem choose_path (s : Int × Int) (d0 d1 : Int) (key : List Vl) : ∃ (k : Int) (key' : List Vl) (a b c d : Int), key'.length ≤ key.length ∧
    ∀ (w : World) (S : Nat → Prop) (v : Value), AVR w S (fun _ => undef) 0 (chooseA s d0 d1 (key.map Vl.row)) v → AVR w S (fun _ => undef) 0 (pathA k (key'.map Vl.row) a b c d) v := by
  unfold chooseA
  split
  · exact ⟨1, key, 0, 0, 0, 0, Nat.le_refl _, fun _ _ _ h => h⟩
  split
  · exact ⟨0, [], 0, 0, 0, 0, Nat.zero_le _, fun _ _ _ h => ale (path_nil ..) h⟩
  split
  · exact ⟨3, [], d0, d1, s.1, s.2, Nat.zero_le _, fun _ _ _ h => ale (path_nil ..) h⟩
  split
  · exact ⟨2, [], d0, d1, 0, 0, Nat.zero_le _, fun _ _ _ h => ale (path_nil ..) h⟩
  · exact ⟨0, [], 0, 0, 0, 0, Nat.zero_le _, fun _ _ _ h => ale (path_nil ..) h⟩
end Go.Proofs.YtijjagkeaehhbaaGreat.Eng

/- An expression that is true at a row makes all its conditions hold there. Each statement bears its conditions. -/
set_option linter.unusedSimpArgs false
set_option linter.unusedVariables false
namespace Go.Proofs.YtijjagkeaehhbaaGreat.Eng
open Go.RowKit (Below)

theorem truth_null : truthV nullV = 1 := by unfold truthV eqV0 nullV; simp
theorem truth_bool (b : Bool) : truthV (boolV b) = if b = true then 2 else 0 := by cases b <;> (unfold truthV eqV0 boolV; simp)
theorem truth_of {t : Int} (h : truthV (ofV t) = 2) : t = 2 := by
  unfold ofV at h
  split at h
  · rw [truth_bool] at h
    split at h
    · rename_i hb; exact eq_of_beq hb
    · cases h
  · rw [truth_null] at h; cases h
theorem logF_two : ∀ (l : List Vl) (t : Int), logF 5 t l = 2 → t = 2 ∧ ∀ v ∈ l, truthV v = 2
  | [], t, h => ⟨h, fun v hv => by cases hv⟩
  | x :: r, t, h => by
    rw [logF, if_pos rfl] at h
    obtain ⟨h1, h2⟩ := logF_two r _ h
    have h3 : t = 2 ∧ truthV x = 2 := by unfold andT at h1; grind
    refine ⟨h3.1, fun v hv => ?_⟩
    rcases List.mem_cons.1 hv with rfl | hv
    · exact h3.2
    · exact h2 v hv
theorem equal_two {a b : Vl} (h : equalT a b = 2) : a.k ≠ 0 ∧ a.k = b.k ∧ vcmpR a b = 0 := by
  unfold equalT truthC at h
  split at h
  · cases h
  · rename_i h1
    split at h
    · rename_i h2
      exact ⟨fun e => h1 (.inl e), by rcases Int.decEq a.k b.k with e | e; exact absurd (.inr e) h1; exact e, eq_of_beq h2⟩
    · cases h
theorem vcmpR_symm {a b : Vl} (h : vcmpR a b = 0) : vcmpR b a = 0 := by
  rw [vcmpR_zero] at h ⊢
  exact ⟨h.1.symm, h.2.1.symm, h.2.2.symm⟩
def holdsC (row : List Vl) (c : Cd) : Prop := c.op = 7 → vcmpR (pickV row c.cl) ⟨c.k, c.i, c.t⟩ = 0
theorem leaf_col {row : List Vl} {n k i : Int} {t s : ByteArray} {q : List Ex} {v : Vl} (h : evR row (.mk 2 n k i t s q) v) (h0 : v.k ≠ 0) : v = pickV row n := by
  rw [evR] at h
  split at h
  · obtain ⟨vs, _, _, h2, _⟩ := h
    rw [h2 (.inr rfl)] at h0 ⊢
    unfold leafV at h0 ⊢
    rw [if_pos rfl] at h0 ⊢
    unfold validOr at h0 ⊢
    split
    · rfl
    · rename_i hv
      rw [if_neg hv] at h0
      exact absurd rfl h0
  · rw [h] at h0; exact absurd rfl h0
theorem leaf_const {row : List Vl} {n k i : Int} {t s : ByteArray} {q : List Ex} {v : Vl} (h : evR row (.mk 1 n k i t s q) v) (h0 : v.k ≠ 0) : v = ⟨k, i, t⟩ := by
  rw [evR] at h
  split at h
  · obtain ⟨vs, _, _, h2, _⟩ := h
    rw [h2 (.inl rfl)] at h0 ⊢
    unfold leafV at h0 ⊢
    rw [if_neg (by decide)] at h0 ⊢
    unfold validOr at h0 ⊢
    split
    · rfl
    · rename_i hv
      rw [if_neg hv] at h0
      exact absurd rfl h0
  · rw [h] at h0; exact absurd rfl h0
theorem core_holds {row : List Vl} {op' o1 n1 k1 i1 : Int} {t1 s1 : ByteArray} {q1 : List Ex} {o2 n2 k2 i2 : Int} {t2 s2 : ByteArray} {q2 : List Ex} {a b : Vl} (ha : evR row (.mk o1 n1 k1 i1 t1 s1 q1) a) (hb : evR row (.mk o2 n2 k2 i2 t2 s2 q2) b)
    (h1 : a.k ≠ 0) (h2 : b.k ≠ 0) (hv : vcmpR a b = 0) : ∀ c ∈ cdOfA (coreV op' o1 n1 o2 k2 i2 t2), holdsC row c := by
  intro c hc h7
  unfold coreV at hc
  split at hc
  · rename_i h
    obtain ⟨rfl, rfl, _, _⟩ := h
    have : c = ⟨op', n1, k2, i2, t2⟩ := by simpa [cdOfA, someA] using hc
    subst this
    rw [← leaf_col ha h1, ← leaf_const hb h2]
    exact hv
  · simp [cdOfA, noneA] at hc
theorem mir7 {op : Int} (h : mirF op = 7) : op = 7 := by unfold mirF at h; grind
theorem someA_op {op' ao an bo bk bi : Int} {bt : ByteArray} {c : Cd} (hc : c ∈ cdOfA (coreV op' ao an bo bk bi bt)) : c.op = op' := by
  unfold coreV at hc
  split at hc
  · have : c = ⟨op', an, bk, bi, bt⟩ := by simpa [cdOfA, someA] using hc
    rw [this]
  · simp [cdOfA, noneA] at hc
theorem cond_holds {row : List Vl} {op n vk vi : Int} {vt s : ByteArray} {args : List Ex} {v : Vl} (h : evR row (.mk op n vk vi vt s args) v) (ht : truthV v = 2) : ∀ c ∈ cdOfA (condE (.mk op n vk vi vt s args)), holdsC row c := by
  intro c hc h7
  unfold condE at hc
  split at hc
  · rename_i o n' vk' vi' vt' s' o1 n1 k1 i1 t1 s1 q1 o2 n2 k2 i2 t2 s2 q2 heq
    injection heq with e1 e2 e3 e4 e5 e6 e7
    subst e1 e2 e3 e4 e5 e6 e7
    unfold condV at hc
    have hop : op = 7 := by
      split at hc
      · split at hc
        · have := someA_op hc; rw [h7] at this; exact mir7 this.symm
        · have := someA_op hc; rw [h7] at this; exact this.symm
      · simp [cdOfA, noneA] at hc
    subst hop
    rw [evR] at h
    split at h
    · obtain ⟨vs, hvs, _, _, _, h4⟩ := h
      obtain ⟨a, b, rfl, rfl⟩ := h4 rfl
      obtain ⟨x, l, e1, ha, hl⟩ := hvs
      rw [evRL] at hl
      obtain ⟨y, l2, e2, hb, _⟩ := hl
      cases e1
      cases e2
      obtain ⟨h5, h6, h8⟩ := equal_two (truth_of ht)
      split at hc
      · split at hc
        · exact core_holds hb ha (by rw [← h6]; exact h5) h5 (vcmpR_symm h8) c hc h7
        · exact core_holds ha hb h5 (by rw [← h6]; exact h5) h8 c hc h7
      · simp [cdOfA, noneA] at hc
    · rw [h, truth_null] at ht; cases ht
  · simp [cdOfA, noneA] at hc
mutual
theorem true_conds {row : List Vl} : ∀ {e : Ex} {v : Vl}, e.slim → evR row e v → truthV v = 2 → ∀ c ∈ leavesC e, holdsC row c
  | .mk op n vk vi vt s args, v, hs, h, ht => by
    rw [leavesC]
    cases hand : andB op n vk vi vt s args.length with
    | true =>
      rw [cond_true]
      rw [← andB_formed op n vk vi vt s args.length hs.1, Bool.and_eq_true] at hand
      have h5 := eq_of_beq hand.1
      subst h5
      rw [evR, if_pos hand.2] at h
      obtain ⟨vs, hvs, _, _, h3, _⟩ := h
      obtain ⟨a, r, rfl, rfl⟩ := h3 rfl
      obtain ⟨h4, h6⟩ := logF_two r _ (truth_of ht)
      exact true_condsL hs.2 hvs fun w hw => by
        rcases List.mem_cons.1 hw with rfl | hw
        · exact h4
        · exact h6 w hw
    | false => exact cond_holds h ht
theorem true_condsL {row : List Vl} : ∀ {l : List Ex} {vs : List Vl}, slimL l → evRL row l vs → (∀ v ∈ vs, truthV v = 2) → ∀ c ∈ leavesCL l, holdsC row c
  | [], vs, _, _, _ => fun c hc => by cases hc
  | e :: r, vs, hs, h, ht => by
    rw [evRL] at h
    obtain ⟨v, l, rfl, h1, h2⟩ := h
    rw [leavesCL]
    intro c hc
    rcases List.mem_append.1 hc with hc | hc
    · exact true_conds hs.1 h1 (ht v (List.mem_cons_self ..)) c hc
    · exact true_condsL hs.2 h2 (fun w hw => ht w (List.mem_cons_of_mem _ hw)) c hc
end
theorem pfx_starts (row : List Vl) {cds : List Cd} (hall : ∀ c ∈ cds, holdsC row c) : ∀ (ks : List Int) (l : List Vl), pfx cds ks = l.map Vl.row → l.length ≤ ks.length ∧ rcmpR ((keyV row ks).take l.length) l = 0
  | [], l, h => by
    rw [pfx] at h
    have : l = [] := by cases l with | nil => rfl | cons x y => simp at h
    subst this
    exact ⟨Nat.le_refl _, rfl⟩
  | k :: r, l, h => by
    rw [pfx] at h
    split at h
    · rename_i c hc
      cases l with
      | nil => simp at h
      | cons x l =>
        rw [List.map_cons] at h
        injection h with h1 h2
        obtain ⟨h3, h4⟩ := pfx_starts row hall r l h2
        have hm := List.mem_of_find?_eq_some hc
        have hq := List.find?_some hc
        unfold isEq at hq
        rw [Bool.and_eq_true] at hq
        have h5 := hall c hm (eq_of_beq hq.1)
        rw [eq_of_beq hq.2] at h5
        have hx : x = ⟨c.k, c.i, c.t⟩ := by
          obtain ⟨xk, xi, xt⟩ := x
          simp only [Cd.val, Vl.row] at h1
          injection h1 with e1 h1
          injection h1 with e2 h1
          injection h1 with e3 h1
          injection e1 with _ e1
          injection e2 with _ e2
          injection e3 with e3
          rw [e1, e2, e3]
        refine ⟨by simpa using h3, ?_⟩
        rw [keyV, List.map_cons, List.length_cons, List.take_succ_cons, rcmpR, hx, if_neg (by rw [h5]; decide)]
        exact h4
    · have : l = [] := by cases l with | nil => rfl | cons x y => simp at h
      subst this
      exact ⟨Nat.zero_le _, rfl⟩
theorem starts_of {row : List Vl} {ks : List Int} {cds : List Cd} {l : List Vl} (hall : ∀ c ∈ cds, holdsC row c) (h : pfx cds ks = l.map Vl.row) : startsB (keyV row ks) l = true := by
  obtain ⟨h1, h2⟩ := pfx_starts row hall ks l h
  unfold startsB
  rw [h2, keyV, List.length_map]
  simp [h1]
/-- The path chosen, and that it contains the version. -/
theorem choose_path2 (ks : List Int) (row : List Vl) (v0 v1 s0 s1 : Int) (s : Int × Int) (d0 d1 : Int) (key : List Vl) : ∃ (k : Int) (key' : List Vl) (a b c d : Int), key'.length ≤ key.length ∧
    (∀ (w : World) (S : Nat → Prop) (v : Value), AVR w S (fun _ => undef) 0 (chooseA s d0 d1 (key.map Vl.row)) v → AVR w S (fun _ => undef) 0 (pathA k (key'.map Vl.row) a b c d) v) ∧
    (overB v0 v1 d0 d1 = true → overB s0 s1 s.1 s.2 = true → startsB (keyV row ks) key = true → matchesB ks row v0 v1 s0 s1 k key' a b c d = true) := by
  unfold chooseA
  split
  · exact ⟨1, key, 0, 0, 0, 0, Nat.le_refl _, fun _ _ _ h => h, fun h1 h2 h3 => by simp [matchesB, h3]⟩
  split
  · exact ⟨0, [], 0, 0, 0, 0, Nat.zero_le _, fun _ _ _ h => ale (path_nil ..) h, fun h1 h2 h3 => by simp [matchesB]⟩
  split
  · exact ⟨3, [], d0, d1, s.1, s.2, Nat.zero_le _, fun _ _ _ h => ale (path_nil ..) h, fun h1 h2 h3 => by simp [matchesB, h1, h2]⟩
  split
  · exact ⟨2, [], d0, d1, 0, 0, Nat.zero_le _, fun _ _ _ h => ale (path_nil ..) h, fun h1 h2 h3 => by simp [matchesB, h1]⟩
  · exact ⟨0, [], 0, 0, 0, 0, Nat.zero_le _, fun _ _ _ h => ale (path_nil ..) h, fun h1 h2 h3 => by simp [matchesB]⟩
end Go.Proofs.YtijjagkeaehhbaaGreat.Eng
