/-
  AN ENGINE: a verified evaluator of the model's code on an abstract heap (part 5 of 8). Its laws are proved here, from the model's own; no condition.
-/
import Derived.Test.YtjeagjpfgilkdaaGreatDoorE3
set_option linter.unusedVariables false
set_option linter.unusedSimpArgs false
/-
  ENGINE, PART 25: strings in place; all active operations without a call.
-/
namespace Go.Ev
variable {P : Program}

theorem run_loadBytes {w : World} {c : Nat} {arr : Array Value} {e : TypeId} {fr : Nat × Nat} (hh : w.heap[c]? = some (.cells arr e fr)) : ∀ (l : List Nat) (o : Nat) (acc : ByteArray), (∀ i d, l[i]? = some d → arr[o + i]? = some (.int .u8 (Int.ofNat d))) →
    (loadBytes ⟨c, o, none⟩ acc l.length).run P w = .ok ⟨(acc.data.toList ++ l.map UInt8.ofNat).toArray⟩ w
  | [], o, acc, _ => by simp [loadBytes]
  | d :: l, o, acc, h => by
    have h0 := h 0 d rfl
    rw [Nat.add_zero] at h0
    simp only [List.length_cons, loadBytes, Sem.run_bind, run_load, cell_at hh h0, Result.andThen_ok, addr_add]
    rw [run_loadBytes hh l (o + 1) _ (fun i x hx => by rw [show o + 1 + i = o + (i + 1) from by omega]; exact h (i + 1) x (by simpa using hx))]
    simp
theorem freeze_putB {w : World} {c o n : Nat} {arr : Array Value} {e : TypeId} {fr : Nat × Nat} (hh : w.heap[c]? = some (.cells arr e fr)) : w.freeze ⟨c, o, none⟩ (n + 1) = w.putB c (.cells arr e (if fr.1 == fr.2 then (o, o + (n + 1)) else (min fr.1 o, max fr.2 (o + (n + 1))))) := by
  have hv := (Array.getElem?_eq_some_iff.1 hh).2
  unfold World.freeze World.putB
  rw [if_neg (Nat.succ_ne_zero n)]
  congr 1
  apply Array.ext
  · simp
  · intro i h1 h2
    rw [Array.getElem_modify]
    by_cases e' : c = i
    · subst e'; simp [hv]
    · rw [if_neg e', Array.getElem_setIfInBounds_ne (h := e')]
theorem bytes_vars {e n s count : Nat} (hc : P.cellsOf e = 1) (h : s + n ≤ count) : liesAt P P.depth e (count / P.cellsOf e) s e n = true := by
  obtain ⟨d, hd⟩ : ∃ d, P.depth = d + 1 := ⟨_, rfl⟩
  rw [hd, hc]
  unfold liesAt
  have : rowAt P (sameLayout P P.depth · e) P.depth e (count / 1) s n = true := by
    rw [hd]
    unfold rowAt
    rw [hc]
    have hl : sameLayout P (d + 1) e e = true := by unfold sameLayout; simp
    simp [hl, h]
    exact .inl (Nat.mod_one s)
  rw [this]; rfl
theorem usK_true {t : Nat} {p n : V} {h : H} {k : V → H → Bool} (hok : h.ok) (hk : usK P t p n h k = true) : ∃ v h', k v h' = true ∧ h'.ok ∧ Ext h h' ∧
    ∀ (ts : Array TypeId) (ty : TypeId) (ρ : Ren) (w : World) (y y' : Value), ts[0]? = some t → HR P ρ h w → VR ρ p y → VR ρ n y' →
      ∃ r w', (Builtin.unsafeString_ ts ty #[y, y']).run P w = .ok r w' ∧ Mv ρ h w ρ h' w' ∧ HR P ρ h' w' ∧ VR ρ v r := by
  obtain ⟨e, he, hk⟩ := og_true.1 hk
  obtain ⟨j, m, rfl, hk1⟩ := natK_true.1 hk
  have hu := und_ptr he
  have hmax : IntKind.i64.max = 9223372036854775807 := by decide
  cases m with
  | zero =>
    have run0 : ∀ (ts : Array TypeId) (ty : TypeId) (w : World) (a : Option Addr), ts[0]? = some t → (Builtin.unsafeString_ ts ty #[.pointer a, .int j (Int.ofNat 0)]).run P w = .ok (.string .empty) w := by
      intro ts ty w a h0
      refine Eq.trans (congrArg (fun s => Sem.run P s w) (show Builtin.unsafeString_ ts ty #[.pointer a, .int j (Int.ofNat 0)] = asInt (.int j (Int.ofNat 0)) >>= _ from rfl)) ?_
      simp only [asInt, asIntOf, Sem.run_bind, Sem.run_pure, Result.andThen_ok, h0]
      rw [if_neg (by simp), if_neg (by rw [hmax]; simp)]
      cases a <;> rfl
    rcases onPtr_true.1 hk1 with ⟨rfl, hk2⟩ | ⟨b, o, rfl, hk2⟩
    · refine ⟨_, h, hk2, hok, Ext.refl _, fun ts ty ρ w y y' h0 hr hy hy' => ⟨.string .empty, w, ?_, Mv.refl _ _ _, hr, VR.str _ rfl⟩⟩
      rw [hy.nilp_inv, hy'.int_inv]; exact run0 ts ty w none h0
    · refine ⟨_, h, hk2, hok, Ext.refl _, fun ts ty ρ w y y' h0 hr hy hy' => ?_⟩
      obtain ⟨c, s, wl, hb, rfl⟩ := hy.ptr_inv
      rw [hy'.int_inv]
      exact ⟨_, w, run0 ts ty w _ h0, Mv.refl _ _ _, hr, VR.str _ rfl⟩
  | succ m =>
    obtain ⟨b, o, rfl, hk2⟩ := vPtr_true.1 hk1
    obtain ⟨rn, cs, e', wi, ro, fz, hg, hk3⟩ := rowK_true.1 hk2
    rw [bsel_eq] at hk3
    cases ro with
    | true => cases hk3
    | false =>
      simp only [Bool.false_eq_true, if_false] at hk3
      obtain ⟨h1, hk4⟩ := bg_true.1 hk3
      obtain ⟨h2, hk5⟩ := bg_true.1 hk4
      obtain ⟨h3, hk6⟩ := bg_true.1 hk5
      obtain ⟨h4, hk7⟩ := bg_true.1 hk6
      obtain ⟨h5, hk8⟩ := bg_true.1 hk7
      rw [nblt, decide_eq_true_iff] at h1
      rw [nbeq, decide_eq_true_iff] at h2 h3
      rw [nble, decide_eq_true_iff] at h4 h5
      subst h2
      obtain ⟨l, hk9, hl1, hl2, hl3⟩ := ldB_true hk8
      rw [H.putK_eq] at hk9
      have hfz : usK.bselN (Nat.ble fz (Nat.succ (Nat.add o (m + 1)))) (Nat.succ (Nat.add o (m + 1))) fz = max fz (o + (m + 1) + 1) := by
        unfold usK.bselN; rw [brec, nble]
        have e1 : Nat.succ (Nat.add o (m + 1)) = o + (m + 1) + 1 := rfl
        rw [e1]
        by_cases hle : fz ≤ o + (m + 1) + 1
        · rw [if_pos (by simpa using hle), Nat.max_eq_right hle]
        · rw [if_neg (by simpa using hle), Nat.max_eq_left (by omega)]
      rw [hfz] at hk9
      refine ⟨_, _, hk9, hok.put (hok _ _ hg), Ext.put _ _ _, fun ts ty ρ w y y' h0 hr hy hy' => ?_⟩
      obtain ⟨c, s, wl, hb, rfl⟩ := hy.ptr_inv
      rw [hy'.int_inv]
      obtain ⟨hwi, arr, fr, hh, hrow, hsz⟩ := hr.row hb hg
      have h5' : o + (m + 1) ≤ rn := h5
      have hfits := hrow.fits
      have hcell : ∀ i d, l[i]? = some d → arr[s + o + i]? = some (.int .u8 (Int.ofNat d)) := fun i d hd => by
        have hi : i < l.length := (List.getElem?_eq_some_iff.1 hd).1
        exact ldB_row hrow hl1 h5' hl3 i _ (by rw [List.getElem?_map, hd]; rfl)
      have hload := run_loadBytes (P := P) hh l (s + o) .empty hcell
      rw [hl1] at hload
      have hvars : (variablesAt ⟨c, s + o, none⟩ e (m + 1)).run P w = .ok true w := by
        have hsh : w.shape? c = some (e, arr.size) := by simp [World.shape?, hh]
        simp only [variablesAt, Sem.run_bind, run_program, run_shape, Result.andThen_ok, hsh]
        rw [bytes_vars h3 (by omega)]; rfl
      refine ⟨.string ⟨(l.map UInt8.ofNat).toArray⟩, _, ?_, Mv.store (o' := .row rn cs e wi false (max fz (o + (m + 1) + 1))) (ob' := .cells arr e (if fr.1 == fr.2 then (s + o, s + o + (m + 1)) else (min fr.1 (s + o), max fr.2 (s + o + (m + 1))))) hb hg rfl,
        hr.store hb hg rfl ⟨hwi, arr, _, rfl, ⟨hrow.fits, hrow.exact_, hrow.cell, fun _ => .inl ?_⟩, hsz⟩, VR.str _ (bytesOf_ofNat hl2)⟩
      · refine Eq.trans (congrArg (fun s => Sem.run P s w) (show Builtin.unsafeString_ ts ty #[.pointer (some ⟨c, s + o, none⟩), .int j (Int.ofNat (m + 1))] = asInt (.int j (Int.ofNat (m + 1))) >>= _ from rfl)) ?_
        simp only [asInt, asIntOf, Sem.run_bind, Sem.run_pure, Result.andThen_ok, h0]
        have h4' : m + 1 ≤ 281474976710656 := h4
        have c3 : (Int.ofNat (m + 1)).toNat = m + 1 := rfl
        rw [if_neg (by simp; omega), if_neg (by rw [hmax]; simp; omega)]
        have c4 : ¬ (Int.ofNat (m + 1) = 0) := by simp; omega
        rw [if_neg c4]
        simp only [Sem.run_bind, elemOf, run_und hu, Result.andThen_ok, Sem.run_pure, c3, hvars, if_true, hload, run_freeze, freeze_putB hh]
        simp
      · rcases hrow.free rfl with hf | ⟨hf, _⟩
        · by_cases heq : fr.1 = fr.2
          · simp only [heq, beq_self_eq_true, if_true]; omega
          · have : (fr.1 == fr.2) = false := by simpa using heq
            simp only [this, Bool.false_eq_true, if_false]; omega
        · omega
/-- all active operations that call nothing -/
theorem active_ok {self : Self} {o : Oper} {tm : T V} {h : H} {k : KO} (hact : isAct o.op = true) (hnc : ∀ c f, o.op = .call c → c.callee ≠ .value f) (hok : h.ok) (hk : opS P self o.op tm h k = true) : Active P o tm h k := by
  cases hop : o.op with
  | store t a x => rw [hop] at hk; exact oStore_ok hop hok hk
  | insert t m key x => rw [hop] at hk; exact oUpd_ok (.inr hop) hok hk
  | mapUpdate t m key x => rw [hop] at hk; exact oUpd_ok (.inl hop) hok hk
  | range t x => rw [hop] at hk; exact oRange_ok hop hok hk
  | next x sb => rw [hop] at hk; exact oNext_ok hop hok hk
  | call c =>
    rw [hop] at hk hact
    obtain ⟨args, hargs, hk⟩ := opdsK_true.1 (show opdsK c.args.toList tm (fun args => Callee.rec (motive := fun _ => Bool) (fun f => opdK f tm fun f => callV self f args h fun v h' => k v h' yes) (fun _ _ => false) (fun b => bi P b c.argTypes.toList args h k) c.callee) = true from hk)
    cases hc : c.callee with
    | value f => exact absurd hc (hnc c f hop)
    | invoke r n => rw [hc] at hk; cases hk
    | builtin b =>
      rw [hc] at hk
      replace hk : bi P b c.argTypes.toList args h k = true := hk
      simp only [isAct, hc] at hact
      have hrun (ev : Operand → Value) (w : World) := exec_builtin (P := P) hop hc ev w
      match args, hargs, hk with
      | [], _, hk => cases hk
      | [x], hargs, hk =>
        obtain ⟨t, ht, hk⟩ := og_true.1 (show og (nth c.argTypes.toList 0) (fun t => bi1 P b t x h k) = true from hk)
        cases b <;> simp at hact
        case clear =>
          obtain ⟨h', g1, g2, g3, g4⟩ := clearK_true (P := P) hok (show clearK P t x h (fun h' => k (.tuple []) h' yes) = true from hk)
          refine ⟨_, h', g1, g2, g3, fun ρ ev w hops hr => ?_⟩
          obtain ⟨consts, e⟩ := hrun ev w
          obtain ⟨y, ey, hy⟩ := args1 hop hops hargs
          obtain ⟨w', g5, g6, g7⟩ := g4 c.argTypes o.type ρ w y (ts0 ht) hr hy
          exact ⟨.value (.tuple #[]), _, w', ρ, by rw [e, ey]; exact builtin_v rfl g5, .inl rfl, g6, g7, VR.undef, Nw.refl _ _⟩
        all_goals cases hk
      | [x, y], hargs, hk =>
        obtain ⟨t, ht, hk⟩ := og_true.1 (show og (nth c.argTypes.toList 0) (fun t => og (nth c.argTypes.toList 1) fun t2 => bi2 P b t t2 x y h k) = true from hk)
        obtain ⟨t2, ht2, hk⟩ := og_true.1 hk
        cases b <;> simp at hact
        case append =>
          obtain ⟨v, h', g1, g2, g3, g4⟩ := appB_true (P := P) hok (show appB P t t2 x y h (fun v h' => k v h' yes) = true from hk)
          refine ⟨v, h', g1, g2, g3, fun ρ ev w hops hr => ?_⟩
          obtain ⟨consts, e⟩ := hrun ev w
          obtain ⟨a, a', ey, hy, hy'⟩ := args2 hop hops hargs
          obtain ⟨r, w', ρ', g5, g6, g7, g8, g9⟩ := g4 c.argTypes o.type ρ w a a' (ts0 ht) (ts0 ht2) hr hy hy'
          exact ⟨.value r, _, w', ρ', by rw [e, ey]; exact builtin_v rfl g5, .inl rfl, g6, g7, g8, g9⟩
        case copy =>
          obtain ⟨v, h', g1, g2, g3, g4⟩ := copyK_true (P := P) hok (show copyK P t x y h (fun v h' => k v h' yes) = true from hk)
          refine ⟨v, h', g1, g2, g3, fun ρ ev w hops hr => ?_⟩
          obtain ⟨consts, e⟩ := hrun ev w
          obtain ⟨a, a', ey, hy, hy'⟩ := args2 hop hops hargs
          obtain ⟨r, w', ρ', g5, g6, g7, g8, g9⟩ := g4 c.argTypes o.type ρ w a a' (ts0 ht) hr hy hy'
          exact ⟨.value r, _, w', ρ', by rw [e, ey]; exact builtin_v rfl g5, .inl rfl, g6, g7, g8, g9⟩
        case delete =>
          obtain ⟨h', g1, g2, g3, g4⟩ := delK_true (P := P) (k := fun h' => k (.tuple []) h' yes) hok hk
          refine ⟨_, h', g1, g2, g3, fun ρ ev w hops hr => ?_⟩
          obtain ⟨consts, e⟩ := hrun ev w
          obtain ⟨a, a', ey, hy, hy'⟩ := args2 hop hops hargs
          obtain ⟨w', g5, g6, g7⟩ := g4 c.argTypes o.type ρ w a a' (ts0 ht) hr hy hy'
          exact ⟨.value (.tuple #[]), _, w', ρ, by rw [e, ey]; exact builtin_v rfl g5, .inl rfl, g6, g7, VR.undef, Nw.refl _ _⟩
        case unsafeString =>
          obtain ⟨v, h', g1, g2, g3, g4⟩ := usK_true (P := P) hok (show usK P t x y h (fun v h' => k v h' yes) = true from hk)
          refine ⟨v, h', g1, g2, g3, fun ρ ev w hops hr => ?_⟩
          obtain ⟨consts, e⟩ := hrun ev w
          obtain ⟨a, a', ey, hy, hy'⟩ := args2 hop hops hargs
          obtain ⟨r, w', g5, g6, g7, g8⟩ := g4 c.argTypes o.type ρ w a a' (ts0 ht) hr hy hy'
          exact ⟨.value r, _, w', ρ, by rw [e, ey]; exact builtin_v rfl g5, .inl rfl, g6, g7, g8, Nw.refl _ _⟩
        all_goals cases hk
      | x :: y :: z :: l, _, hk => cases hk
  | _ => rw [hop] at hk hact; first | (cases hact; done) | cases hk
end Go.Ev
