/- The engine: every operation's condition is sound. -/
import Derived.Test.YtijjagkeaehhbaaEngJ
set_option linter.unusedSimpArgs false
set_option linter.unusedVariables false
namespace Go.Proofs.Ytijjagkeaehhbaa.Eng
open Go.RowKit (Below)

section
variable {P : Program} {T : Tab} {C : Ctx} {o : Oper} {s : AS} {K : AS → Prop} {S : Nat → Prop} {σ : Nat → Value} {a : Act} {w : World}

theorem AVR.nils_inv {w S σ n v} (h : AVR w S σ n (.one (.lf (.pv .nils))) v) : v = .slice none 0 0 := by cases h.pv_inv; rfl

theorem sl_view {id t sz : Nat} {ys : List (List PV)} (hs : SR C s S σ a w) (hid : s.hp id = some (.row t sz ys)) : ∃ A cap, σ id = .slice A ys.length cap ∧ (∀ r ∈ ys, r.length = sz) ∧ (A = none → ys = [] ∧ cap = 0) ∧
    ∀ ad, A = some ad → ∃ f : Nat → Nat → Value, (∀ i j, i < ys.length → j < sz → w.cell? (ad.add (i * sz + j)) = some (f i j) ∧ (f i j).oneCell' = true) ∧ ∀ (i j : Nat) r p, ys[i]? = some r → r[j]? = some p → PVR w S p (f i j) := by
  obtain ⟨hl, xs, how, h1, hx⟩ := row_open hs hid
  rcases how.2 with ⟨h4, h5⟩ | ⟨g, cap, cur, h4, _, hh, _, _, _, htake⟩
  · exact ⟨none, 0, by rw [h4, h5], hl, fun _ => ⟨List.eq_nil_of_length_eq_zero h5, rfl⟩, fun ad h => by cases h⟩
  · refine ⟨some ⟨g, 0, none⟩, cap, h4, hl, (fun h => by cases h), fun ad had => ⟨fun i j => (xs[i * sz + j]?).getD undef, fun i j hi hj => ?_, fun i j r p hi hj => ?_⟩⟩
    · injection had with had
      subst had
      have hlt : i * sz + j < xs.length := by rw [how.1]; exact flat_lt hi hj
      have hget : xs[i * sz + j]? = some xs[i * sz + j] := List.getElem?_eq_getElem hlt
      simp only [hget, Option.getD_some]
      exact ⟨how.cells (g := g) (by rw [h4]; rfl) _ _ hget, h1 _ (List.getElem_mem hlt)⟩
    · obtain ⟨v, h2, h3⟩ := hx i j r p hi hj
      simpa [h2] using h3

theorem builtin_sound (hT : TOK P T) {c : Call} (ho : o.op = .call c) {b : Builtin} (hc : c.callee = .builtin b) (hs : SR C s S σ a w)
    (h : builtinA T b c.argTypes.toList (c.args.toList.map s.ev) s fun v s' => s'.put o.dst v K) : Fine P C o a w K := by
  unfold builtinA at h
  split at h
  · -- len
    rename_i t ts x hty hargs
    obtain ⟨q, hq, hqx⟩ := map_one hargs
    split at h
    · rename_i i hi
      obtain ⟨j, d, z, ht⟩ := typeOk (hT t i hi)
      have hv := hs.ev q
      rw [hqx] at hv
      split at h
      · rename_i hst hel
        exact fine_len ho hc hty hq hs ht (.inl ⟨hst, _, hv.str_inv, rfl⟩) h
      · rename_i e hst hel
        have : a.eval q = .slice none 0 0 := hv.nils_inv
        exact fine_len ho hc hty hq hs ht (.inr ⟨⟨_, hel⟩, _, 0, _, this, rfl⟩) h
      · rename_i sz rows hst hel
        obtain ⟨A, cap, h1, _⟩ := vs_view hv.pv_inv
        exact fine_len ho hc hty hq hs ht (.inr ⟨⟨_, hel⟩, _, _, _, h1, rfl⟩) h
      · rename_i id hst hel
        split at h
        · rename_i te sz rows hid
          obtain ⟨A, cap, h1, _⟩ := sl_view hs hid
          exact fine_len ho hc hty hq hs ht (.inr ⟨⟨_, hel⟩, _, _, _, hv.sl_inv.2.trans h1, rfl⟩) h
        · exact h.elim
      · exact h.elim
    · exact h.elim
  · -- append
    rename_i t t' x y hty hargs
    obtain ⟨q, r, hqr, hqx, hry⟩ := map_two hargs
    split at h
    · rename_i i htt hi
      have htt := of_decide_eq_true htt
      subst htt
      obtain ⟨j, d, z, ht⟩ := typeOk (hT t i hi)
      split at h
      · rename_i e hel
        split at h
        · rename_i ie hie
          obtain ⟨j', d', z', hte⟩ := typeOk (hT e ie hie)
          split at h
          · rename_i id
            split at h
            · rename_i te sz rows hid
              split at h
              · rename_i e1 e2 e3
                have e1 := Nat.eq_of_beq_eq_true e1
                have e2 := Nat.eq_of_beq_eq_true e2
                subst e1 e2
                have hown : s.n0 ≤ id ∨ s.c0 id = true := by
                  rcases Bool.or_eq_true_iff.1 e3 with h | h
                  · exact .inl (Nat.le_of_ble_eq_true h)
                  · exact .inr h
                have hv := hs.ev r
                rw [hry] at hv
                have hargs' : c.args = #[q, r] := arr_of hqr
                have hty' : c.argTypes = #[t, t] := arr_of hty
                split at h
                · rename_i sz' ys
                  obtain ⟨⟨rfl, hb, hl⟩, hk⟩ := h
                  obtain ⟨A, cap, h1, h2, h3, h4⟩ := vs_view hv.pv_inv
                  exact fine_append ho hc hty' hargs' hs ht hel hte hqx hid hown h1 h2 h3 h4 (fun _ => hl) (fun _ => hb) hk
                · have h1 : a.eval r = .slice none 0 0 := hv.nils_inv
                  exact fine_append (ys := []) ho hc hty' hargs' hs ht hel hte hqx hid hown h1 (by simp) (fun _ => ⟨rfl, rfl⟩) (fun ad h => by cases h) (fun h => absurd rfl h) (fun h => absurd rfl h) (by simpa using h)
                · rename_i id'
                  split at h
                  · rename_i te' sz' ys hid'
                    obtain ⟨⟨hne, rfl, rfl, hb, hl⟩, hk⟩ := h
                    have hne : id' ≠ id := fun e => by subst e; rw [Nat.beq_refl] at hne; cases hne
                    obtain ⟨A, cap, h1, h2, h3, h4⟩ := sl_view hs hid'
                    exact fine_append ho hc hty' hargs' hs ht hel hte hqx hid hown (hv.sl_inv.2.trans h1) h2 h3 h4 (fun _ => hl) (fun _ => hb) hk
                  · exact h.elim
                · exact h.elim
              · exact h.elim
            · exact h.elim
          · exact h.elim
        · exact h.elim
      · exact h.elim
    · exact h.elim
  · -- max
    rename_i k m k' n hargs
    obtain ⟨q, r, hqr, hqx, hry⟩ := map_two hargs
    split at h
    · rename_i hk
      have hk := of_decide_eq_true hk
      subst hk
      exact fine_max ho hc hqr hs (hqx ▸ hs.ev q).int_inv (hry ▸ hs.ev r).int_inv h
    · exact h.elim
  · rename_i k m k' n hargs
    obtain ⟨q, r, hqr, hqx, hry⟩ := map_two hargs
    split at h
    · rename_i hk
      have hk := of_decide_eq_true hk
      subst hk
      exact fine_min ho hc hqr hs (hqx ▸ hs.ev q).int_inv (hry ▸ hs.ev r).int_inv h
    · exact h.elim
  · exact h.elim

theorem vcOp_sound (hT : TOK P T) (hs : SR C s S σ a w) (h : vcOp P T o s K) : Fine P C o a w K := by
  unfold vcOp at h
  split at h
  case h_1 x ho => exact fine_move (.inl ho) hs h
  case h_2 x ho => exact fine_move (.inr ho) hs h
  case h_3 c x y ho =>
    split at h
    · rename_i t hc
      exact fine_pick ho hs hc h.1 h.2
    · exact h.elim
  case h_4 op t x y yt ho => exact fine_bin ho hs h
  case h_5 op t x ho =>
    split at h
    · rename_i b hx; exact fine_not ho hs hx h
    · rename_i k n hx; exact fine_neg ho hs hx h
    · exact h.elim
  case h_6 x ho =>
    split at h
    · rename_i i off hx
      obtain ⟨_, b, _, hb⟩ := (hx ▸ hs.ev x).ptr_inv
      exact fine_nilCheck ho hs hb (by rw [hx]; exact h)
    · rename_i i z j off hx
      obtain ⟨_, b, m, c, _, hb⟩ := (hx ▸ hs.ev x).rp_inv
      exact fine_nilCheck ho hs hb (by rw [hx]; exact h)
    · rename_i r off hx
      obtain ⟨b, q, f, hb, _⟩ := (hx ▸ hs.ev x).cp_inv
      exact fine_nilCheck ho hs hb (by rw [hx]; exact h)
    · exact fine_pure hs h
  case h_7 x k ho =>
    split at h
    · rename_i rs hx
      split at h
      · rename_i r hk; exact fine_extract ho hs hx hk h
      · exact h.elim
    · exact h.elim
  case h_8 t x ho =>
    split at h
    · rename_i i cs hi hc
      split at h
      · exact fine_box ho hs hc h
      · exact h.elim
    · rename_i cs hi hc
      exact fine_box ho hs hc h
    · exact h.elim
  case h_9 t ho =>
    split at h
    · rename_i i hi
      obtain ⟨j, d, z, ht⟩ := typeOk (hT t i hi)
      exact fine_alloc ho hs ht h
    · exact h.elim
  case h_10 t p ho =>
    split at h
    · rename_i i hi
      obtain ⟨j, d, z, ht⟩ := typeOk (hT t i hi)
      split at h
      · rename_i id off hp
        split at h
        · rename_i t' cs hid
          split at h
          · rename_i v hv; exact fine_load_box ho hs ht hp hid hv h
          · exact h.elim
        · exact h.elim
      · rename_i id sz idx off hp
        split at h
        · rename_i t' sz' rows hid
          obtain ⟨r, hr, rfl, h⟩ := h
          split at h
          · rename_i v hv; exact fine_load_rp ho hs ht hp hid hr hv h
          · exact h.elim
        · exact h.elim
      · rename_i r off hp
        split at h
        · rename_i v hv; exact fine_load_cp ho hs ht hp hv h
        · exact h.elim
      · exact h.elim
    · exact h.elim
  case h_11 t p x ho =>
    split at h
    · rename_i i xs hi hxs
      obtain ⟨j, d, z, ht⟩ := typeOk (hT t i hi)
      split at h
      · rename_i hlen
        have hlen := Nat.eq_of_beq_eq_true hlen
        split at h
        · rename_i id off hp
          split at h
          · rename_i t' cs hid
            split at h
            · rename_i hle; exact fine_store_box ho hs ht hxs hlen hp hid (Nat.le_of_ble_eq_true hle) h
            · exact h.elim
          · exact h.elim
        · rename_i id sz idx off hp
          split at h
          · rename_i t' sz' rows ps hid hps
            obtain ⟨r, hr, rfl, hfit, h⟩ := h
            have hps := pures_spec hps
            subst hps
            exact fine_store_rp ho hs ht hxs hlen hp hid hr hfit h
          · exact h.elim
        · exact h.elim
      · exact h.elim
    · exact h.elim
  case h_12 t p f ho =>
    split at h
    · rename_i i hi
      obtain ⟨j, d, z, ht⟩ := typeOk (hT t i hi)
      split at h
      · rename_i fo hfo; exact fine_fieldAddr ho hs ht hfo h
      · exact h.elim
    · exact h.elim
  case h_13 t x f ho =>
    split at h
    · rename_i i hi
      obtain ⟨j, d, z, ht⟩ := typeOk (hT t i hi)
      split at h
      · rename_i fo xs hfo hx
        split at h
        · rename_i v hv; exact fine_field ho hs ht hfo hx hv h
        · exact h.elim
      · exact h.elim
    · exact h.elim
  case h_14 t x ix ho =>
    split at h
    · rename_i i hi
      obtain ⟨j, d, z, ht⟩ := typeOk (hT t i hi)
      split at h
      · rename_i e hel
        split at h
        · rename_i ie sz rows k n hie hx hix
          obtain ⟨j', d', z', hte⟩ := typeOk (hT e ie hie)
          obtain ⟨r, h0, hr, hsz, h⟩ := h
          exact fine_index_vs ho hs ht hel hte hx hix h0 hr hsz h
        · rename_i ie id k n hie hx hix
          obtain ⟨j', d', z', hte⟩ := typeOk (hT e ie hie)
          split at h
          · rename_i t' sz rows hid
            obtain ⟨⟨h0, h1, hsz⟩, h⟩ := h
            exact fine_index_sl ho hs ht hel hte hx hid hix h0 h1 hsz h
          · exact h.elim
        · exact h.elim
      · exact h.elim
    · exact h.elim
  case h_15 t x ix ho =>
    split at h
    · rename_i i hi
      obtain ⟨j, d, z, ht⟩ := typeOk (hT t i hi)
      split at h
      · rename_i b k n hst hx hix
        obtain ⟨c, h0, hc, h⟩ := h
        exact fine_index_str ho hs ht hst hx hix h0 hc h
      · exact h.elim
    · exact h.elim
  case h_16 t parts ho =>
    split at h
    · rename_i i hi
      obtain ⟨j, d, z, ht⟩ := typeOk (hT t i hi)
      split at h
      · rename_i cs hagg hf; exact fine_build ho hs ht hf (ht.st hagg) h
      · exact h.elim
    · exact fine_pure hs h
  case h_17 t len parts ho =>
    split at h
    · rename_i i hi
      obtain ⟨j, d, z, ht⟩ := typeOk (hT t i hi)
      split at h
      · rename_i e hel
        split at h
        · rename_i ie hie
          obtain ⟨j', d', z', hte⟩ := typeOk (hT e ie hie)
          split at h
          · rename_i cs hle hf
            split at h
            · rename_i ps hps
              have hps := pures_spec hps
              subst hps
              obtain ⟨own, h⟩ := h
              cases own with
              | true => exact fine_buildSlice ho hs ht hel hte (Nat.le_of_ble_eq_true hle) hf h
              | false => exact fine_buildPure ho hs ht hel hte (Nat.le_of_ble_eq_true hle) hf h
            · exact h.elim
          · exact h.elim
        · exact h.elim
      · exact h.elim
    · exact h.elim
  case h_18 g first caps ho =>
    split at h
    · rename_i ids hf hc; exact fine_makeFunc ho hs hf hc h
    · exact h.elim
  case h_19 c ho =>
    split at h
    · rename_i b hb; exact builtin_sound hT ho hb hs h
    · rename_i f hf
      obtain ⟨hl1, hl2⟩ := map_rel hs c.args.toList
      split at h
      · rename_i g hg
        have he : a.eval f = .func (.func g) #[] ([] : List Value).toArray := by
          have := (hg ▸ hs.ev f).pv_inv
          generalize a.eval f = v at this
          cases this
          rfl
        obtain ⟨how, h⟩ := h
        cases how with
        | call => exact fine_call (caps := []) ho hf he hs (by simp) (by simpa using hl2) h
        | pure => exact fine_pure hs h
      · rename_i g ids hg
        have he : a.eval f = .func (.func g) #[] (ids.map σ).toArray ∧ ∀ i ∈ ids, i < s.nx ∧ ∃ b, σ i = .pointer (some ⟨b, 0, none⟩) := by
          have := hg ▸ hs.ev f
          generalize a.eval f = v at this
          cases this with | one this => cases this with | lf this => cases this with | clo hn => exact ⟨rfl, hn⟩
        refine fine_call (caps := ids.map σ) ho hf he.1 hs (by simp [clos]) (fun i x hi => ?_) h
        by_cases hlt : i < c.args.toList.length
        · rw [List.getElem?_append_left (by simpa using hlt)] at hi
          obtain ⟨v, h1, h2⟩ := hl2 i x hi
          exact ⟨v, by rw [List.getElem?_append_left (by simpa using hlt)]; exact h1, h2⟩
        · rw [List.getElem?_append_right (by simpa using hlt), List.length_map] at hi
          unfold clos at hi
          rw [List.getElem?_map] at hi
          generalize hk : i - c.args.toList.length = k at hi
          cases hq : ids[k]? with
          | none => rw [hq] at hi; cases hi
          | some q =>
            rw [hq] at hi
            injection hi with hi
            subst hi
            obtain ⟨hn, b, hb⟩ := he.2 q (List.mem_of_getElem? hq)
            refine ⟨σ q, by rw [List.getElem?_append_right (by simpa using hlt), List.length_map, List.getElem?_map, hk, hq]; rfl, ?_⟩
            rw [hb]
            exact .one (.lf (.ptr hn hb))
      · exact h.elim
    · rename_i r m hr
      obtain ⟨f, y, h1, h2⟩ := h
      obtain ⟨hl1, hl2⟩ := map_rel hs c.args.toList
      exact fine_invoke ho hr hs h1 (by simp) hl2 h2
  case h_20 t u x ho =>
    split at h
    · rename_i i j k n hi hj hx
      obtain ⟨j1, d, z, ht⟩ := typeOk (hT t _ hi)
      obtain ⟨j2, d', z', hu⟩ := typeOk (hT u _ hj)
      split at h
      · rename_i k' hk
        exact fine_conv ho hs ht hu (.inl ⟨_, k', _, (hx ▸ hs.ev x).int_inv, hk, rfl⟩) (.int _ _) h
      · exact h.elim
    · rename_i i j b hi hj hx
      obtain ⟨j1, d, z, ht⟩ := typeOk (hT t _ hi)
      obtain ⟨j2, d', z', hu⟩ := typeOk (hT u _ hj)
      split at h
      · rename_i hk
        exact fine_conv ho hs ht hu (.inr ⟨_, (hx ▸ hs.ev x).str_inv, hk, rfl⟩) (.str _) h
      · exact h.elim
    · exact h.elim
  case h_21 t l c ho =>
    split at h
    · rename_i i hi
      obtain ⟨j, d, z, ht⟩ := typeOk (hT t i hi)
      split at h
      · rename_i e hel
        split at h
        · rename_i ie k1 n1 k2 n2 hie h1 h2
          obtain ⟨j', d', z', hte⟩ := typeOk (hT e ie hie)
          obtain ⟨⟨rfl, h3, h4, h5⟩, h⟩ := h
          exact fine_make ho hs ht hel hte (h1 ▸ hs.ev l).int_inv (h2 ▸ hs.ev c).int_inv h3 h4 h5 h
        · exact h.elim
      · exact h.elim
    · exact h.elim
  case h_22 => exact fine_pure hs h

end
end Go.Proofs.Ytijjagkeaehhbaa.Eng
