/- What access.Choose and the example of bitemporallaw49 compute. Each function's arguments are its condition. -/
import Derived.Test.YtijjagkeaehhbaaAce
set_option linter.unusedSimpArgs false
set_option linter.unusedVariables false
namespace Go.Proofs.Ytijjagkeaehhbaa.Eng
open Go.RowKit (Below)

/-- Whatever reads as p reads as q. -/
structure PLe (p q : PV) : Prop where
  le : ∀ (w : World) (S : Nat → Prop) (v : Value), PVR w S p v → PVR w S q v
theorem PLe.rfl (p : PV) : PLe p p := ⟨fun _ _ _ h => h⟩
theorem PLe.nils (sz : Nat) : PLe .nils (.vs sz []) := ⟨fun w S v h => by
  cases h
  exact .vs sz [] none 0 (fun _ _ => undef) (Nat.le_refl _) (Nat.zero_le _) (fun _ => Eq.refl _) (fun r hr => by cases hr) (fun h => absurd (Eq.refl _) h) (fun i j hi => absurd hi (Nat.not_lt_zero _)) (fun i j r p hr => by simp at hr)⟩
inductive PLes : List PV → List PV → Prop where
  | nil : PLes [] []
  | cons {p q ps qs} (h : PLe p q) (r : PLes ps qs) : PLes (p :: ps) (q :: qs)
theorem PLes.length {ps qs : List PV} (h : PLes ps qs) : qs.length = ps.length := by
  induction h with
  | nil => rfl
  | cons h r ih => simp [ih]
theorem PLes.get {ps qs : List PV} (h : PLes ps qs) : ∀ (i : Nat) (q : PV), qs[i]? = some q → ∃ p, ps[i]? = some p ∧ PLe p q := by
  induction h with
  | nil => intro i q hq; simp at hq
  | cons h r ih =>
    intro i q hq
    match i with
    | 0 => simp at hq; subst hq; exact ⟨_, Eq.refl _, h⟩
    | i + 1 => simpa using ih i q (by simpa using hq)
inductive RLes : List (List PV) → List (List PV) → Prop where
  | nil : RLes [] []
  | cons {p q ps qs} (h : PLes p q) (r : RLes ps qs) : RLes (p :: ps) (q :: qs)
theorem RLes.length {ps qs : List (List PV)} (h : RLes ps qs) : qs.length = ps.length := by
  induction h with
  | nil => rfl
  | cons h r ih => simp [ih]
theorem RLes.get {ps qs : List (List PV)} (h : RLes ps qs) : ∀ (i : Nat) (q : List PV), qs[i]? = some q → ∃ p, ps[i]? = some p ∧ PLes p q := by
  induction h with
  | nil => intro i q hq; simp at hq
  | cons h r ih =>
    intro i q hq
    match i with
    | 0 => simp at hq; subst hq; exact ⟨_, Eq.refl _, h⟩
    | i + 1 => simpa using ih i q (by simpa using hq)
theorem PLe.vs (sz : Nat) {rows rows' : List (List PV)} (h : RLes rows rows') : PLe (.vs sz rows) (.vs sz rows') := ⟨fun w S v hv => by
  cases hv with
  | vs _ _ A cap f hc hm hN hs hA h1 hp =>
    have hl := h.length
    have key := PVR.vs (w := w) (S := S) sz rows' A cap f (by rw [hl]; exact hc) hm hN (fun r hr => by
        obtain ⟨i, hi⟩ := List.getElem?_of_mem hr
        obtain ⟨p, h2, h3⟩ := h.get i r hi
        rw [h3.length]
        exact hs p (List.mem_of_getElem? h2))
      (fun hne => by
        rw [hl]
        exact hA fun h0 => by
          subst h0
          cases h
          exact hne (Eq.refl _))
      (by rw [hl]; exact h1)
      (fun i j r p hr hj => by
        obtain ⟨q, h2, h3⟩ := h.get i r hr
        obtain ⟨p', h4, h5⟩ := h3.get j p hj
        exact h5.le _ _ _ (hp i j q p' h2 h4))
    rw [hl] at key
    exact key⟩
theorem ale {ps qs : List PV} (h : PLes ps qs) {w : World} {S : Nat → Prop} {σ : Nat → Value} {n : Nat} {v : Value} (hv : AVR w S σ n (.agg (pvs ps)) v) : AVR w S σ n (.agg (pvs qs)) v := by
  obtain ⟨vs, rfl, h1, h2⟩ := agg_of hv
  refine .one (.agg ⟨by rw [h1, (pvs_spec ps).1, (pvs_spec qs).1, h.length], fun i x hx => ?_⟩)
  obtain ⟨q, hq, rfl⟩ := (pvs_spec qs).2.1 i x hx
  obtain ⟨p, hp, hle⟩ := h.get i q hq
  obtain ⟨v, h3, h4⟩ := h2 i _ ((pvs_spec ps).2.2 i p hp)
  cases h4 with
  | pv h4 => exact ⟨v, h3, .pv (hle.le _ _ _ h4)⟩
theorem AFunR.wk {P : Program} {g : Nat} {args : List AV} {r r' : AV} (h : AFunR P g args (fun x => x = r)) (hr : ∀ (w : World) (S : Nat → Prop) (v : Value), AVR w S (fun _ => undef) 0 r v → AVR w S (fun _ => undef) 0 r' v) : AFunR P g args (fun x => x = r') :=
  ⟨h.1, fun w S hS vs hn hv => (h.2 w S hS vs hn hv).mono fun e w' ⟨v, x, h1, h2, h3, h4⟩ => ⟨v, r', rfl, h2, h3, hr _ _ _ (by subst h1; exact h4)⟩⟩

/-- A comparison of a column with a number. -/
def cmpE (op i n : Int) : Ex := .mk op 0 0 0 ⟨#[]⟩ ⟨#[]⟩ [.mk 2 i 0 0 ⟨#[]⟩ ⟨#[]⟩ [], .mk 1 0 1 n ⟨#[]⟩ ⟨#[]⟩ []]
theorem c_compare (op i n : Int) : AFunR Try.prog 44 [.i op, .i i, .i n] (fun r => r = .agg (pvs (cmpE op i n).row)) := by
  have h : AFunR Try.prog 44 [.i op, .i i, .i n] (fun r => r = .agg (pvs [I op, I 0, I 0, I 0, .str ⟨#[]⟩, .str ⟨#[]⟩, .vs 7 [[I 2, I i, I 0, I 0, .str ⟨#[]⟩, .str ⟨#[]⟩, .nils], [I 1, I 0, I 1, I n, .str ⟨#[]⟩, .str ⟨#[]⟩, .nils]]])) := by
    refine afun_body T_ok mixed Try.func44 rfl (ent_of Try.func44 rfl rfl) (Nat.le_of_ble_eq_true rfl) ?_
    repeat' (first | exact True.intro | apply And.intro | (intro h; exact Bool.noConfusion h) | exact ok_op (by kernel_rfl) | exact ok_tr (by kernel_rfl) | intro _ | rfl | refine @Exists.intro Bool _ true ?_ | refine @Exists.intro Way _ .call ?_)
  refine h.wk fun w S v hv => ale ?_ hv
  refine .cons (.rfl _) (.cons (.rfl _) (.cons (.rfl _) (.cons (.rfl _) (.cons (.rfl _) (.cons (.rfl _) (.cons (.vs 7 ?_) .nil))))))
  exact .cons (.cons (.rfl _) (.cons (.rfl _) (.cons (.rfl _) (.cons (.rfl _) (.cons (.rfl _) (.cons (.rfl _) (.cons (.nils 7) .nil))))))) (.cons (.cons (.rfl _) (.cons (.rfl _) (.cons (.rfl _) (.cons (.rfl _) (.cons (.rfl _) (.cons (.rfl _) (.cons (.nils 7) .nil))))))) .nil)

abbrev pathP (k : Int) (key : PV) (a b c d : Int) : AV := .agg [li k, .pv key, li a, li b, li c, li d]
def chooseA (s : Int × Int) (d0 d1 : Int) (key : List (List PV)) : AV :=
  if 0 < key.length then pathP 1 (.vs 3 key) 0 0 0 0
  else if validB s.1 s.2 = false then pathP 0 .nils 0 0 0 0
  else if (s.1 == 0 && s.2 == 1099511627776) = false then pathP 3 .nils d0 d1 s.1 s.2
  else if (d0 == 0 && d1 == 1099511627776) = false then pathP 2 .nils d0 d1 0 0
  else pathP 0 .nils 0 0 0 0
theorem c_choose (nm cols : PV) (ks : List Int) (fo ch : PV) (e : Ex) (k a b d0 d1 : Int) (hf : e.fits) (hb : (leaves e).length ≤ 1099511627776) (hk : ks.length ≤ 1099511627776) :
    AFunR Try.prog 15 [tabA nm cols ks fo ch, .agg (pvs e.row), .agg [li k, li a, li b], per d0 d1] (fun r => r = chooseA (sysF k a b) d0 d1 (pfx (leavesC e) ks)) := by
  have hp := c_prefix nm cols ks fo ch e hf hb hk
  have hs := c_system k a b
  generalize sysF k a b = s at hs ⊢
  obtain ⟨s0, s1⟩ := s
  generalize pfx (leavesC e) ks = key at hp ⊢
  obtain ⟨op, n, vk, vi, vt, s, args⟩ := e
  refine afun_body T_ok mixed Try.func15 rfl (ent_of Try.func15 rfl rfl) (Nat.le_of_ble_eq_true rfl) ?_
  repeat' (first | exact True.intro | apply And.intro | (intro h; exact Bool.noConfusion h) | exact ok_op (by kernel_rfl) | exact ok_tr (by kernel_rfl) | intro _ | refine callR_of_fun hs.afun rfl ?_ | refine callR_of_fun hp.afun rfl ?_ | refine callR_of_fun (c_valid _ _).afun rfl ?_ | refine Exists.intro _ (And.intro (ne_per _ _ _ _ _ _) ?_) | refine fin_to (y := .agg [_, _, _, _, _, _]) rfl ?_ | refine @Exists.intro Bool _ true ?_ | refine @Exists.intro Way _ .call ?_)
  all_goals (refine ⟨?_⟩; clear hs hp hf hb; unfold chooseA; grind)

end Go.Proofs.Ytijjagkeaehhbaa.Eng
