/-
  AN ENGINE: a verified evaluator of the model's code on an abstract heap (part 6 of 8). Its laws are proved here, from the model's own; no condition.
-/
import Derived.Test.YtjeagjpfgilkdaaGreatDoorE4
import Derived.RangeFuncLeaves
set_option linter.unusedVariables false
set_option linter.unusedSimpArgs false
/-
  ENGINE, PART 26: operations as the calculus sees them; calls.
-/
namespace Go.Ev
variable {P : Program}

structure FW (F : Fence) : Prop where
  fn : ∀ f, F.fn f
  depth : F.depth = none
  alive : F.alive = false
theorem FW.plain {F : Fence} (h : FW F) : FW F.plain := ⟨h.fn, h.depth, h.alive⟩
theorem FW.inRound {F : Fence} (h : FW F) (l : Nat) : FW (F.inRound l) := ⟨h.fn, h.depth, h.alive⟩
theorem FW.deep {F : Fence} (h : FW F) {n : Nat} : F.depth.isSome = true → 1 ≤ n := fun e => by rw [h.depth] at e; cases e
/-- what stands behind an operation or a call -/
structure Aft (P : Program) (ρ : Ren) (h : H) (w : World) (h' : H) (ρ' : Ren) (w' : World) : Prop where
  mv : Mv ρ h w ρ' h' w'
  nw : Nw ρ ρ' fun b => h.next ≤ b
  hr : HR P ρ' h' w'
theorem Aft.refl {ρ : Ren} {h : H} {w : World} (hr : HR P ρ h w) : Aft P ρ h w h ρ w := ⟨Mv.refl _ _ _, Nw.refl _ _, hr⟩
theorem Aft.trans {ρ ρ1 ρ2 : Ren} {h h1 h2 : H} {w w1 w2 : World} (a : Aft P ρ h w h1 ρ1 w1) (b : Aft P ρ1 h1 w1 h2 ρ2 w2) : Aft P ρ h w h2 ρ2 w2 := ⟨a.mv.trans b.mv, a.nw.trans b.nw a.mv.next, b.hr⟩
/-- what an operation does, in the calculus -/
def Out (P : Program) (o : Oper) (tm : T V) (h : H) (v : V) (h' : H) : Prop :=
  ∀ (F : Fence) (n : Nat) (ρ : Ren) (a : Act) (w : World) (nxt : Act → World → Prop) (Q : Exit → Act → World → Prop), FW F → OpsR ρ tm a.eval o.op.operands.toList → HR P ρ h w →
    (∀ ρ' x w', Aft P ρ h w h' ρ' w' → VR ρ' v x → nxt (a.put o.dst x) w') → o.wpIn F n P a w nxt Q
theorem opS_nodefer {self : Self} {o : Oper} {tm : T V} {h : H} {k : KO} (hk : opS P self o.op tm h k = true) (c : Call) : o.op ≠ .defer c := fun e => by rw [e] at hk; cases hk
theorem wpIn_run {F : Fence} {n : Nat} {o : Oper} {a : Act} {w : World} {nxt : Act → World → Prop} {Q : Exit → Act → World → Prop} (hF : FW F) (hd : ∀ c, o.op ≠ .defer c) (h : o.uponIn F n P a nxt Q ((execOp a.eval o).run P w)) : o.wpIn F n P a w nxt Q := by
  unfold Oper.wpIn
  rw [Oper.semAt_eq _ _ _ hd]
  exact ⟨fun f _ => hF.fn f, h⟩
theorem Does.out {o : Oper} {tm : T V} {h h' : H} {v : V} (hd : ∀ c, o.op ≠ .defer c) (g : Does P o tm h v h') : Out P o tm h v h' := by
  intro F n ρ a w nxt Q hF hops hr hn
  obtain ⟨res, x, w', ρ', h1, h2, h3, h4, h5, h6⟩ := g ρ a.eval w hops hr
  refine wpIn_run hF hd ?_
  rw [h1]
  rcases h2 with rfl | ⟨rfl, rfl⟩
  · exact hn ρ' x w' ⟨h3, h6, h4⟩ h5
  · exact hn ρ' _ w' ⟨h3, h6, h4⟩ h5
theorem HR.ag {ρ : Ren} {h h1 : H} {w : World} (hr : HR P ρ h w) (a : Ag h h1) : HR P ρ h1 w := by
  have get : ∀ b c s wl, ρ b = some (c, s, wl) → h1.get b = h.get b := fun b c s wl hb => a.get b (hr.dom _ _ _ _ hb).1
  refine ⟨fun b c s wl hb => ⟨Nat.lt_of_lt_of_le (hr.dom _ _ _ _ hb).1 a.next, (hr.dom _ _ _ _ hb).2⟩, fun b c s wl o hb hg => ?_, fun b b' c s wl s' wl' o o' hb hb' hg hg' => ?_, hr.glob⟩
  · rw [get _ _ _ _ hb] at hg; exact hr.obj _ _ _ _ _ hb hg
  · rw [get _ _ _ _ hb] at hg; rw [get _ _ _ _ hb'] at hg'; exact hr.inj _ _ _ _ _ _ _ _ _ hb hb' hg hg'
theorem Mv.ag {ρ : Ren} {h h1 : H} {w : World} (hr : HR P ρ h w) (a : Ag h h1) : Mv ρ h w ρ h1 w :=
  ⟨.refl _, a.next, Nat.le_refl _, fun _ _ _ => rfl, fun b c s wl o hb hg hf _ => by rw [a.get b (hr.dom _ _ _ _ hb).1] at hg; exact ⟨b, s, wl, o, hb, hg, hf⟩, rfl, rfl, rfl⟩
theorem Aft.ag {ρ : Ren} {h h1 : H} {w : World} (hr : HR P ρ h w) (a : Ag h h1) : Aft P ρ h w h1 ρ w := ⟨Mv.ag hr a, Nw.refl _ _, hr.ag a⟩
theorem Good.out {o : Oper} {tm : T V} {h h1 : H} {v : V} {nb : Option Nat} (hd : ∀ c, o.op ≠ .defer c) (g : Good P o tm v nb h1) (a : Ag h h1) (hnb : ∀ b, nb = some b → h.next ≤ b) : Out P o tm h v h1 := by
  intro F n ρ ac w nxt Q hF hops hr hn
  have hr1 := hr.ag a
  obtain ⟨x, w', ρ', e1, e2, e3, e4, e5⟩ := g.2 h1 (Ag.refl _) ρ ac.eval w hops hr1 (fun b hb => by
    cases hρ : ρ b with
    | none => rfl
    | some y => obtain ⟨c, s, wl⟩ := y; have := (hr.dom _ _ _ _ hρ).1; have := hnb b hb; omega)
  refine wpIn_run hF hd ?_
  rw [e1]
  exact hn ρ' x w' ⟨(Mv.ag hr a).trans e2, fun b hb hb' => hnb b (e5 b hb hb'), e3⟩ e4

/-! ### calls -/
/-- what a call of function f does -/
def Ends (P : Program) (ρ : Ren) (h : H) (w : World) (v : V) (h' : H) : Ending → World → Prop := fun e w' => ∃ x ρ', e = .returned x ∧ Aft P ρ h w h' ρ' w' ∧ VR ρ' v x
def CallsForm (P : Program) (f : Nat) (args : List V) (h : H) (v : V) (h' : H) : Prop :=
  (∀ (xs : Array Value) (w : World), (callFunc f xs).run P w = .ok (.enter f xs) w) ∧
  ∀ (F : Fence) (n : Nat) (ρ : Ren) (w : World) (xs : Array Value), FW F → F.round = none → HR P ρ h w → VRL ρ args xs.toList → CallsIn F n P f xs w (Ends P ρ h w v h')
def ExtForm (P : Program) (f : Nat) (args : List V) (h : H) (v : V) (h' : H) : Prop :=
  ∀ (ρ : Ren) (w : World) (xs : Array Value), HR P ρ h w → VRL ρ args xs.toList → ∃ x w' ρ', (callFunc f xs).run P w = .ok (.value x) w' ∧ Aft P ρ h w h' ρ' w' ∧ VR ρ' v x
def CallOk (P : Program) (f : Nat) (args : List V) (h : H) (v : V) (h' : H) : Prop := CallsForm P f args h v h' ∨ ExtForm P f args h v h'
def RoundOk (P : Program) (l : Nat) (args : List V) (h : H) (v : V) (h' : H) : Prop :=
  ∀ (F : Fence) (n : Nat) (ρ : Ren) (w : World) (xs : Array Value) (c s : Nat) (wl : Wl), FW F → HR P ρ h w → ρ l = some (c, s, wl) → VRL ρ args xs.toList →
    ∃ f tmps asg body, (Instr.yield c xs).run P w = .ok (.round c f tmps asg body) w ∧ RoundIn F n P c f tmps asg body w (Ends P ρ h w v h')
inductive X.is : X → Exit → Prop
  | normal : X.is .normal .normal
  | exit (i : Nat) : X.is (.exit i) (.exit i)
  | goto (l : Nat) : X.is (.goto l) (.goto l)
  | ret : X.is .ret .ret
/-- the deferred calls of an activation: nothing but marks; [0] within a round -/
def DF (ρ : Ren) (m : List Nat) (ds : List Deferred) : Prop := (m = [0] ∧ ds = []) ∨ (0 ∉ m ∧ ds.length = m.length ∧ ∀ (i d : Nat), m[i]? = some d → ∃ c s wl, ∃ x : Deferred, ρ d = some (c, s, wl) ∧ ds[i]? = some x ∧ x.target = .collected c)
theorem DF.mono {ρ ρ' : Ren} (h : ρ.le ρ') {m : List Nat} {ds : List Deferred} (hd : DF ρ m ds) : DF ρ' m ds := by
  rcases hd with hd | ⟨h1, h2, h3⟩
  · exact .inl hd
  · exact .inr ⟨h1, h2, fun i d hi => let ⟨c, s, wl, x, a, b, e⟩ := h3 i d hi; ⟨c, s, wl, x, h _ _ a, b, e⟩⟩
/-- the state of an activation -/
structure St (P : Program) (N : Nat) (F : Fence) (ρ : Ren) (tm : T V) (h : H) (m : List Nat) (a : Act) (w : World) : Prop where
  hr : HR P ρ h w
  tr : TR ρ tm a.tmps
  df : DF ρ m a.defers
  size : a.tmps.size = N
  round : m = [0] ∨ F.round = none
/-- what code does -/
def CodeOk (P : Program) (N : Nat) (c : Code) (tm : T V) (h : H) (m : List Nat) (x : X) (tm' : T V) (h' : H) (m' : List Nat) : Prop :=
  ∀ (F : Fence) (n : Nat) (ρ : Ren) (a : Act) (w : World) (Q : Exit → Act → World → Prop), FW F → St P N F ρ tm h m a w →
    (∀ e ρ' a' w', x.is e → Aft P ρ h w h' ρ' w' → St P N F ρ' tm' h' m' a' w' → Q e a' w') → c.wpIn F n P Q a w
structure SelfOk (P : Program) (N : Nat) (sf : Self) : Prop where
  call : ∀ f args (h : H) k, h.ok → sf.call f args h k = true → ∃ v h', k v h' = true ∧ h'.ok ∧ Ext h h' ∧ CallOk P f args h v h'
  round : ∀ l args (h : H) k, h.ok → sf.round l args h k = true → ∃ v h', k v h' = true ∧ h'.ok ∧ Ext h h' ∧ RoundOk P l args h v h'
theorem callV_true {N : Nat} {self : Self} (hs : SelfOk P N self) {o : Oper} {c : Call} {fo : Operand} (ho : o.op = .call c) (hc : c.callee = .value fo) {f : V} {args : List V} {tm : T V} {h : H} {k : V → H → Bool} (hok : h.ok)
    (hf : opdV tm fo = some f) (ha : opdsV tm c.args.toList = some args) (hk : callV self f args h k = true) : ∃ v h', k v h' = true ∧ h'.ok ∧ Ext h h' ∧ Out P o tm h v h' := by
  obtain ⟨g, a0, b0, rfl, hk1⟩ := vFn_true.1 hk
  have mem : fo ∈ o.op.operands.toList := by simp [ho, Op.operands, Call.operands, hc]
  have hdf : ∀ c', o.op ≠ .defer c' := fun c' e => by rw [ho] at e; cases e
  have target : ∀ (ρ : Ren) (ev : Operand → Value) (w : World), OpsR ρ tm ev o.op.operands.toList → ∃ g' a' b', FR ρ g g' ∧ VRL ρ a0 a'.toList ∧ VRL ρ b0 b'.toList ∧ VRL ρ args (c.args.map ev).toList ∧
      (execOp ev o).run P w = (invoke (.fn g' b') (a' ++ c.args.map ev)).run P w := by
    intro ρ ev w hops
    obtain ⟨g', a', b', e, h1, h2, h3⟩ := (hops fo mem _ hf).fn_inv
    refine ⟨g', a', b', h1, h2, h3, by simpa using opds_mem hops (call_args ho) ha, ?_⟩
    simp only [execOp, ho, resolve, hc, e, Deferred.ofValue, Sem.run_bind, Sem.run_pure, Result.andThen_ok]
  cases g with
  | func f =>
    obtain ⟨v, h', h1, h2, h3, h4⟩ := hs.call f _ h k hok (show self.call f (app a0 (app args b0)) h k = true from hk1)
    rw [app_eq, app_eq] at h4
    refine ⟨v, h', h1, h2, h3, fun F n ρ a w nxt Q hF hops hr hn => ?_⟩
    obtain ⟨g', a', b', hg, ha', hb', hargs, hrun⟩ := target ρ a.eval w hops
    simp only [FR] at hg; subst hg
    refine wpIn_run hF hdf ?_
    rw [hrun]
    have hinv : (invoke (.fn (.func f) b') (a' ++ c.args.map a.eval)).run P w = (callFunc f ((a' ++ c.args.map a.eval) ++ b')).run P w := rfl
    rw [hinv]
    have hvr : VRL ρ (a0 ++ (args ++ b0)) ((a' ++ c.args.map a.eval) ++ b').toList := by
      rw [Array.toList_append, Array.toList_append, List.append_assoc]
      exact ha'.append (hargs.append hb')
    rcases h4 with ⟨h5, h6⟩ | h5
    · rw [h5]
      refine ⟨hF.deep, ?_⟩
      have := h6 F.plain (n - 1) ρ w _ hF.plain rfl hr hvr
      refine CallsIn.mono (F := F) this fun e w' he => ?_
      obtain ⟨x, ρ', rfl, haft, hv⟩ := he
      exact hn ρ' x w' haft hv
    · obtain ⟨x, w', ρ', h6, h7, h8⟩ := h5 ρ w _ hr hvr
      rw [h6]; exact hn ρ' x w' h7 h8
  | yield l =>
    cases a0 with
    | cons x l => cases hk1
    | nil =>
      obtain ⟨v, h', h1, h2, h3, h4⟩ := hs.round l args h k hok (show self.round l args h k = true from hk1)
      refine ⟨v, h', h1, h2, h3, fun F n ρ a w nxt Q hF hops hr hn => ?_⟩
      obtain ⟨g', a', b', hg, ha', hb', hargs, hrun⟩ := target ρ a.eval w hops
      obtain ⟨cc, s, wl, hρ, rfl⟩ := hg
      refine wpIn_run hF hdf ?_
      have ha0 : a' = #[] := by have := ha'.nil_inv; exact Array.toList_eq_nil_iff.1 this
      subst ha0
      rw [hrun]
      have hinv : (invoke (.fn (.yield cc) b') (#[] ++ c.args.map a.eval)).run P w = (Instr.yield cc (#[] ++ c.args.map a.eval)).run P w := rfl
      rw [hinv, Array.empty_append]
      obtain ⟨f, tmps, asg, body, h5, h6⟩ := h4 F (n - 1) ρ w _ cc s wl hF hr hρ hargs
      rw [h5]
      refine ⟨hF.deep, RoundIn.mono h6 fun e w' he => ?_⟩
      obtain ⟨x, ρ', rfl, haft, hv⟩ := he
      exact hn ρ' x w' haft hv
  | _ => cases hk1
/-- all operations -/
theorem op_ok {N : Nat} {self : Self} (hs : SelfOk P N self) {o : Oper} {tm : T V} {h : H} {k : KO} (hok : h.ok) (hk : opS P self o.op tm h k = true) : ∃ v h' c, k v h' c = true ∧ h'.ok ∧ Ext h h' ∧ Out P o tm h v h' := by
  have hdf := opS_nodefer hk
  cases hact : isAct o.op with
  | false =>
    obtain ⟨v, h1, c, nb, g1, g2, g3, g4, g5, g6, _⟩ := passive_ok hact hok hk
    exact ⟨v, h1, c, g1, g3, g4, g5.out hdf g2 g6⟩
  | true =>
    by_cases hv : ∃ c f, o.op = .call c ∧ c.callee = .value f
    · obtain ⟨c, fo, ho, hc⟩ := hv
      rw [ho] at hk
      obtain ⟨args, hargs, hk1⟩ := opdsK_true.1 (show opdsK c.args.toList tm (fun args => Callee.rec (motive := fun _ => Bool) (fun f => opdK f tm fun f => callV self f args h fun v h' => k v h' yes) (fun _ _ => false) (fun b => bi P b c.argTypes.toList args h k) c.callee) = true from hk)
      rw [hc] at hk1
      obtain ⟨f, hf, hk2⟩ := opdK_true.1 hk1
      obtain ⟨v, h', g1, g2, g3, g4⟩ := callV_true hs ho hc hok hf hargs hk2
      exact ⟨v, h', yes, g1, g2, g3, g4⟩
    · obtain ⟨v, h', g1, g2, g3, g4⟩ := active_ok hact (fun c f e e' => hv ⟨c, f, e, e'⟩) hok hk
      exact ⟨v, h', yes, g1, g2, g3, g4.out hdf⟩
end Go.Ev
/-
  ENGINE, PART 27: regions in their written order.
-/
namespace Go.Ev
variable {P : Program}

theorem opsR_of {ρ : Ren} {tm : T V} {h : H} {a : Act} {w : World} (hr : HR P ρ h w) (ht : TR ρ tm a.tmps) {l : List Operand} (hg : ∀ x ∈ l, ∀ g, x = .global g → g < P.globals.size) : OpsR ρ tm a.eval l := by
  intro x hx v hv
  cases x with
  | tmp i =>
    obtain ⟨y, hy, hr⟩ := ht i v hv
    have : a.eval (.tmp i) = y := by simp [Act.eval, Array.getD_eq_getD_getElem?, hy]
    rw [this]; exact hr
  | const c => exact ofV_VR hv
  | global g =>
    cases hv
    have := VR.ptr 0 (hr.glob g (hg _ hx g rfl))
    exact this
  | func f =>
    cases hv
    simp only [VR]
    exact ⟨_, #[], #[], rfl, rfl, VRL.nil, VRL.nil⟩
theorem opBnd_true {n g : Nat} {o : Oper} (h : opBnd n g o = true) : (∀ d, o.dst = some d → d < n) ∧ ∀ x ∈ o.op.operands.toList, ∀ i, x = .global i → i < g := by
  unfold opBnd at h
  rw [Bool.and_eq_true] at h
  refine ⟨fun d hd => ?_, fun x hx i hi => ?_⟩
  · have := h.1; rw [hd] at this; replace this : Nat.blt d n = true := this; rw [nblt] at this; simpa using this
  · have := List.all_eq_true.1 h.2 x hx
    subst hi; replace this : Nat.blt i g = true := this; rw [nblt] at this; simpa using this
theorem dstK_eq (d : Option Nat) (v : V) (tm : T V) (k : T V → Bool) : dstK d v tm k = k (match d with | some d => tm.put (some v) d | none => tm) := by
  cases d with
  | none => rfl
  | some d => exact T.putK_eq _ _ _ _
/-- the slots behind an operation -/
noncomputable def tmDst (d : Option Nat) (v : V) (tm : T V) : T V := match d with | some d => tm.put (some v) d | none => tm
theorem TR.dst {ρ : Ren} {tm : T V} {a : Act} {N : Nat} (ht : TR ρ tm a.tmps) (hs : a.tmps.size = N) {d : Option Nat} (hd : ∀ i, d = some i → i < N) {v : V} {x : Value} (hv : VR ρ v x) : TR ρ (tmDst d v tm) (a.put d x).tmps ∧ (a.put d x).tmps.size = N ∧ (a.put d x).defers = a.defers := by
  cases d with
  | none => exact ⟨ht, hs, rfl⟩
  | some i => exact ⟨ht.put (by rw [hs]; exact hd i rfl) hv, by simp [Act.put, hs], rfl⟩
theorem VR.of_bool {ρ : Ren} {v : V} {b : Bool} (h : VR ρ v (.bool b)) : v = .bool b := by
  cases v <;> simp [VR] at h
  rw [h]
/-- whether an operation is wanted -/
theorem wantK_true {all : List Oper} {ops : Array Oper} (hall : all = ops.toList) {o : Oper} {tm : T V} {y n : Bool} (h : wantK all o.guard tm y n = true) :
    ∃ b : Bool, (if b then y else n) = true ∧ ∀ (ρ : Ren) (tmps : Array Value), (∀ j want oj d, o.guard = some (j, want) → ops[j]? = some oj → oj.dst = some d → ∀ v, tm.get d = some v → ∃ x, tmps[d]? = some x ∧ VR ρ v x) → Region.wanted o (yielded ops tmps) = b := by
  cases hg : o.guard with
  | none => rw [hg] at h; exact ⟨true, h, fun ρ tmps _ => by simp [Region.wanted, hg]⟩
  | some g =>
    obtain ⟨j, want⟩ := g
    rw [hg] at h
    obtain ⟨oj, hj, h⟩ := og_true.1 (show og (nth all j) (fun oj => og oj.dst fun d => og (tm.get d) fun v => ifBool v n fun b => bsel (bsel want b (!b)) y n) = true from h)
    obtain ⟨d, hd, h⟩ := og_true.1 h
    obtain ⟨v, hv, h⟩ := og_true.1 h
    rw [nth_eq, hall] at hj
    have hj' : ops[j]? = some oj := by simpa using hj
    rw [ifBool_eq] at h
    cases v with
    | bool b =>
      simp only [bsel_eq] at h
      refine ⟨b == want, ?_, fun ρ tmps ht => ?_⟩
      · cases want <;> cases b <;> simpa using h
      · obtain ⟨x, hx, hr⟩ := ht j want oj d rfl hj' hd _ hv
        rw [hr.bool_inv] at hx
        simp [Region.wanted, hg, yielded, hj', hd, hx]
    | _ =>
      refine ⟨false, h, fun ρ tmps ht => ?_⟩
      obtain ⟨x, hx, hr⟩ := ht j want oj d rfl hj' hd _ hv
      have hnb : ∀ b, x ≠ .bool b := fun b e => by subst e; have := hr.of_bool; cases this
      cases x <;> first | exact absurd rfl (hnb _) | simp [Region.wanted, hg, yielded, hj', hd, hx]
/-- one operation: done, or not wanted -/
def OneOk (P : Program) (N : Nat) (ops : Array Oper) (o : Oper) (tm : T V) (h : H) (tm' : T V) (h' : H) : Prop :=
  ∀ (F : Fence) (n : Nat) (ρ : Ren) (m : List Nat) (a : Act) (w : World) (nxt : Act → World → Prop) (Q : Exit → Act → World → Prop), FW F → St P N F ρ tm h m a w →
    (∀ ρ' a' w', Aft P ρ h w h' ρ' w' → St P N F ρ' tm' h' m a' w' → nxt a' w') →
    if Region.wanted o (yielded ops a.tmps) then o.wpIn F n P a w nxt Q else nxt (a.put o.dst undef) w
theorem oneOp_true {self : Self} (hs : SelfOk P 0 self) {ops : Array Oper} {o : Oper} {tm : T V} {h : H} {k : T V → H → (H → Bool) → Bool} (hok : h.ok) (hk : oneOp P self ops.toList o tm h k = true) :
    ∃ tm' h' c, k tm' h' c = true ∧ h'.ok ∧ Ext h h' ∧ ∀ N, opBnd N P.globals.size o = true → OneOk P N ops o tm h tm' h' := by
  obtain ⟨b, hb, hw⟩ := wantK_true (ops := ops) rfl hk
  have wanted : ∀ (N : Nat) (F : Fence) (ρ : Ren) (m : List Nat) (a : Act) (w : World), St P N F ρ tm h m a w → Region.wanted o (yielded ops a.tmps) = b := fun N F ρ m a w st => hw ρ a.tmps fun j want oj d _ _ _ v hv => st.tr d v hv
  cases b with
  | true =>
    obtain ⟨v, h', c, g1, g2, g3, g4⟩ := op_ok hs hok (show opS P self o.op tm h (fun v h' c => dstK o.dst v tm fun tm' => k tm' h' c) = true from hb)
    rw [dstK_eq] at g1
    refine ⟨tmDst o.dst v tm, h', c, g1, g2, g3, fun N hN F n ρ m a w nxt Q hF st hn => ?_⟩
    obtain ⟨hbd, hbg⟩ := opBnd_true hN
    rw [wanted N F ρ m a w st, if_pos rfl]
    refine g4 F n ρ a w nxt Q hF (opsR_of st.hr st.tr hbg) st.hr fun ρ' x w' haft hv => ?_
    obtain ⟨t1, t2, t3⟩ := (st.tr.mono haft.mv.le).dst st.size hbd hv
    exact hn ρ' _ w' haft ⟨haft.hr, t1, by rw [t3]; exact st.df.mono haft.mv.le, t2, st.round⟩
  | false =>
    have hb' : (dstK o.dst (.tuple []) tm fun tm' => k tm' h yes) = true := hb
    rw [dstK_eq] at hb'
    refine ⟨tmDst o.dst (.tuple []) tm, h, yes, hb', hok, Ext.refl _, fun N hN F n ρ m a w nxt Q hF st hn => ?_⟩
    obtain ⟨hbd, hbg⟩ := opBnd_true hN
    rw [wanted N F ρ m a w st, if_neg (by simp)]
    obtain ⟨t1, t2, t3⟩ := st.tr.dst st.size hbd (VR.undef (ρ := ρ))
    exact hn ρ _ w (Aft.refl st.hr) ⟨st.hr, t1, by rw [t3]; exact st.df, t2, st.round⟩
theorem seqK_true {self : Self} (hs : SelfOk P 0 self) {ops : Array Oper} : ∀ {l : List Oper} {i : Nat} {tm : T V} {h : H} {k : T V → H → Bool}, (∀ j, l[j]? = ops[i + j]?) → h.ok → seqK P self ops.toList l tm h k = true →
    ∃ tm' h', k tm' h' = true ∧ h'.ok ∧ Ext h h' ∧ ∀ (N : Nat), (∀ o ∈ l, opBnd N P.globals.size o = true) → ∀ (F : Fence) (n : Nat) (ρ : Ren) (m : List Nat) (a : Act) (w : World) (Q : Exit → Act → World → Prop), FW F → St P N F ρ tm h m a w →
      (∀ ρ' a' w', Aft P ρ h w h' ρ' w' → St P N F ρ' tm' h' m a' w' → Q .normal a' w') → wpOpsIn F n P ops Q (List.range' i l.length) a w
  | [], i, tm, h, k, hl, hok, hk => ⟨tm, h, hk, hok, Ext.refl _, fun N _ F n ρ m a w Q hF st hq => hq ρ a w (Aft.refl st.hr) st⟩
  | o :: l, i, tm, h, k, hl, hok, hk => by
    obtain ⟨tm1, h1, c, g1, g2, g3, g4⟩ := oneOp_true hs hok (show oneOp P self ops.toList o tm h (fun tm' h' _ => seqK P self ops.toList l tm' h' k) = true from hk)
    obtain ⟨tm2, h2, g5, g6, g7, g8⟩ := seqK_true hs (i := i + 1) (fun j => by have := hl (j + 1); simp only [List.getElem?_cons_succ] at this; rw [this]; congr 1; omega) g2 g1
    refine ⟨tm2, h2, g5, g6, g3.trans g7, fun N hb F n ρ m a w Q hF st hq => ?_⟩
    have hi : ops[i]? = some o := by have := hl 0; simpa using this.symm
    have hr : List.range' i (o :: l).length = i :: List.range' (i + 1) l.length := by simp [List.range'_succ]
    rw [hr]
    simp only [wpOpsIn, hi]
    have := g4 N (hb o (by simp)) F n ρ m a w (wpOpsIn F n P ops Q (List.range' (i + 1) l.length)) Q hF st fun ρ' a' w' haft st' => g8 N (fun o ho => hb o (by simp [ho])) F n ρ' m a' w' Q hF st' fun ρ2 a2 w2 haft2 st2 => hq ρ2 a2 w2 (haft.trans haft2) st2
    split
    · rename_i hw; rw [if_pos hw] at this; exact this
    · rename_i hw; rw [if_neg hw] at this; exact ⟨fun f _ => hF.fn f, this⟩
end Go.Ev
/-
  ENGINE, PART 28: code.
-/
namespace Go.Ev
variable {P : Program} {N : Nat}

theorem X.is_normal {e : Exit} (h : X.is .normal e) : e = .normal := by cases h; rfl
theorem CodeOk.here {c : Code} {tm : T V} {h : H} {m : List Nat} {x : X} {e0 : Exit} (hx : x.is e0) (hw : ∀ (F : Fence) (n : Nat) (a : Act) (w : World) (Q : Exit → Act → World → Prop), Q e0 a w → c.wpIn F n P Q a w) : CodeOk P N c tm h m x tm h m :=
  fun F n ρ a w Q _ st hq => hw F n a w Q (hq e0 ρ a w hx (Aft.refl st.hr) st)
theorem CodeOk.seq {c d : Code} {tm tm1 tm2 : T V} {h h1 h2 : H} {m m1 m2 : List Nat} {x : X} (a : CodeOk P N c tm h m .normal tm1 h1 m1) (b : CodeOk P N d tm1 h1 m1 x tm2 h2 m2) : CodeOk P N (.seq c d) tm h m x tm2 h2 m2 :=
  fun F n ρ ac w Q hF st hq => wpIn_seq (a F n ρ ac w _ hF st fun e ρ1 a1 w1 he haft st1 => by
    cases he
    exact b F n ρ1 a1 w1 Q hF st1 fun e ρ2 a2 w2 he2 haft2 st2 => hq e ρ2 a2 w2 he2 (haft.trans haft2) st2)
theorem CodeOk.seqStop {c d : Code} {tm tm1 : T V} {h h1 : H} {m m1 : List Nat} {x : X} (hx : x ≠ .normal) (a : CodeOk P N c tm h m x tm1 h1 m1) : CodeOk P N (.seq c d) tm h m x tm1 h1 m1 :=
  fun F n ρ ac w Q hF st hq => wpIn_seq (a F n ρ ac w _ hF st fun e ρ1 a1 w1 he haft st1 => by
    cases he
    · exact absurd rfl hx
    · exact hq _ ρ1 a1 w1 (.exit _) haft st1
    · exact hq _ ρ1 a1 w1 (.goto _) haft st1
    · exact hq _ ρ1 a1 w1 .ret haft st1)
theorem CodeOk.cond {c : Operand} {t : Bool} {a b : Code} {tm tm1 : T V} {h h1 : H} {m m1 : List Nat} {x : X} (hc : opdV tm c = some (.bool t)) (hcg : ∀ g, c ≠ .global g) (k : CodeOk P N (if t then a else b) tm h m x tm1 h1 m1) : CodeOk P N (.cond c a b) tm h m x tm1 h1 m1 :=
  fun F n ρ ac w Q hF st hq => by
    have := (opsR_of st.hr st.tr (l := [c]) (fun y hy g e => by simp at hy; subst hy; exact absurd e (hcg g))) c (by simp) _ hc
    refine wpIn_cond (t := t) this.bool_inv ?_
    cases t
    · exact k F n ρ ac w Q hF st hq
    · exact k F n ρ ac w Q hF st hq
theorem CodeOk.block {id : Nat} {c : Code} {tm tm1 : T V} {h h1 : H} {m m1 : List Nat} {x x' : X} (a : CodeOk P N c tm h m x tm1 h1 m1) (hx : x' = match x with | .exit i => if i = id then .normal else .exit i | y => y) : CodeOk P N (.block id c) tm h m x' tm1 h1 m1 :=
  fun F n ρ ac w Q hF st hq => wpIn_block (a F n ρ ac w _ hF st fun e ρ1 a1 w1 he haft st1 => by
    cases he
    · subst hx; exact hq _ ρ1 a1 w1 .normal haft st1
    · rename_i i
      simp only at hx
      simp only [Exit.inBlock]
      by_cases hi : i = id
      · rw [if_pos hi] at hx ⊢; subst hx; exact hq _ ρ1 a1 w1 .normal haft st1
      · rw [if_neg hi] at hx ⊢; subst hx; exact hq _ ρ1 a1 w1 (.exit _) haft st1
    · subst hx; exact hq _ ρ1 a1 w1 (.goto _) haft st1
    · subst hx; exact hq _ ρ1 a1 w1 .ret haft st1)
theorem least {p : Nat → Prop} : ∀ (n : Nat), p n → ∃ m, p m ∧ ∀ j, p j → m ≤ j := by
  intro n
  induction n using Nat.strongRecOn with
  | _ n ih =>
    intro hn
    by_cases h : ∃ j, j < n ∧ p j
    · obtain ⟨j, hj, hp⟩ := h; exact ih j hj hp
    · exact ⟨n, hn, fun j hj => Nat.le_of_not_lt fun hlt => h ⟨j, hlt, hj⟩⟩
theorem least' {p : Nat → Prop} (h : ∃ n, p n) : ∃ m, p m ∧ ∀ j, p j → m ≤ j := let ⟨n, hn⟩ := h; least n hn
/-- the rounds of a loop -/
inductive Loops (P : Program) (N : Nat) (c : Code) : Nat → T V → H → List Nat → X → T V → H → List Nat → Prop
  | stop {tm tm1 : T V} {h h1 : H} {m m1 : List Nat} {x : X} (hx : x ≠ .normal) (a : CodeOk P N c tm h m x tm1 h1 m1) : Loops P N c 0 tm h m x tm1 h1 m1
  | step {j : Nat} {tm tm1 tm2 : T V} {h h1 h2 : H} {m m1 m2 : List Nat} {x : X} (a : CodeOk P N c tm h m .normal tm1 h1 m1) (b : Loops P N c j tm1 h1 m1 x tm2 h2 m2) : Loops P N c (j + 1) tm h m x tm2 h2 m2
theorem Loops.ok {c : Code} {j : Nat} {tm tm1 : T V} {h h1 : H} {m m1 : List Nat} {x : X} (l : Loops P N c j tm h m x tm1 h1 m1) : CodeOk P N (.loop c) tm h m x tm1 h1 m1 := by
  intro F n ρ a w Q hF st hq
  classical
  let Inv : Nat → Act → World → Prop := fun j' a' w' => ∃ tm' h' m' ρ', Loops P N c j' tm' h' m' x tm1 h1 m1 ∧ Aft P ρ h w h' ρ' w' ∧ St P N F ρ' tm' h' m' a' w'
  let μ : Act → World → Nat := fun a' w' => if he : ∃ j', Inv j' a' w' then Classical.choose (least' he) else 0
  have μle : ∀ j' a' w', Inv j' a' w' → μ a' w' ≤ j' := fun j' a' w' hi => by
    have he : ∃ j', Inv j' a' w' := ⟨j', hi⟩
    simp only [μ, dif_pos he]; exact (Classical.choose_spec (least' he)).2 _ hi
  refine wpIn_loop (fun a' w' => ∃ j', Inv j' a' w') μ ⟨j, tm, h, m, ρ, l, Aft.refl st.hr, st⟩ fun a' w' hi => ?_
  have hspec : Inv (μ a' w') a' w' := by simp only [μ, dif_pos hi]; exact (Classical.choose_spec (least' hi)).1
  obtain ⟨tm', h', m', ρ', hl, haft, st'⟩ := hspec
  generalize hμ : μ a' w' = jj at hl
  cases hl with
  | stop hx k =>
    refine k F n ρ' a' w' _ hF st' fun e ρ2 a2 w2 he haft2 st2 => ?_
    cases he
    · exact absurd rfl hx
    · exact hq _ ρ2 a2 w2 (.exit _) (haft.trans haft2) st2
    · exact hq _ ρ2 a2 w2 (.goto _) (haft.trans haft2) st2
    · exact hq _ ρ2 a2 w2 .ret (haft.trans haft2) st2
  | step k b =>
    rename_i j2 tmb hb mb
    refine k F n ρ' a' w' _ hF st' fun e ρ2 a2 w2 he haft2 st2 => ?_
    cases he
    have hi2 : Inv j2 a2 w2 := ⟨tmb, hb, mb, ρ2, b, haft.trans haft2, st2⟩
    refine ⟨⟨j2, hi2⟩, ?_⟩
    have := μle _ _ _ hi2
    exact Nat.lt_succ_of_le this

/-! ### scopes -/
section steps
variable {b : Frame} {a : Act} {k : List Item} {cs : List Frame} {w : World}
theorem stepR_scope {c : Code} : step P (lone (b.atR a (.code (.scope c) :: k)) cs w) = .next (lone (b.atR a (.code c :: .inScope c :: k)) cs w) :=
  step_lone_go (by simp [stepG, stepG.exec, Frame.atR])
theorem stepR_inScope {c : Code} : step P (lone (b.atR a (.inScope c :: k)) cs w) = .next (lone (b.atR a k) cs w) :=
  step_lone_go (by simp [stepG, stepG.exec, Frame.atR])
end steps
/-- the ways through a scope -/
inductive Scopes (P : Program) (N : Nat) (body : Code) : Code → T V → H → List Nat → X → T V → H → List Nat → Prop
  | stop {c : Code} {tm tm1 : T V} {h h1 : H} {m m1 : List Nat} {x : X} (hx : ∀ l, x = .goto l → findLabel body l = none) (a : CodeOk P N c tm h m x tm1 h1 m1) : Scopes P N body c tm h m x tm1 h1 m1
  | jump {c rest : Code} {l : Nat} {tm tm1 tm2 : T V} {h h1 h2 : H} {m m1 m2 : List Nat} {x : X} (a : CodeOk P N c tm h m (.goto l) tm1 h1 m1) (hl : findLabel body l = some rest) (b : Scopes P N body rest tm1 h1 m1 x tm2 h2 m2) : Scopes P N body c tm h m x tm2 h2 m2
theorem Scopes.arrives {body c : Code} {tm tm1 : T V} {h h1 : H} {m m1 : List Nat} {x : X} (s : Scopes P N body c tm h m x tm1 h1 m1) : ∀ (F : Fence) (n : Nat) (ρ : Ren) (a : Act) (w : World) (Q : Exit → Act → World → Prop), FW F → St P N F ρ tm h m a w →
    (∀ e ρ' a' w', x.is e → Aft P ρ h w h1 ρ' w' → St P N F ρ' tm1 h1 m1 a' w' → Q e a' w') → ∀ (b : Frame) (k : List Item) (cs : List Frame), b.roundOf = F.round → F.fn b.fn → F.room (cs.length + 1 + n) →
      ∃ e a' w', Q e a' w' ∧ ArrivesIn (Machine.fenced P F) P (lone (b.atR a (.code c :: .inScope body :: k)) cs w) b k cs e a' w' := by
  induction s with
  | stop hx a =>
    intro F n ρ ac w Q hF st hq b k cs hro hb hr
    obtain ⟨e, a1, w1, hqq, harr⟩ := a F n ρ ac w (fun e a w => (∃ x', x' = e ∧ Q e a w) ∧ X.is _ e) hF st (fun e ρ1 a1 w1 he haft st1 => ⟨⟨e, rfl, hq e ρ1 a1 w1 he haft st1⟩, he⟩) b (.inScope body :: k) cs hro hb hr
    obtain ⟨⟨_, rfl, hQ⟩, hxe⟩ := hqq
    cases hxe with
    | normal => exact ⟨.normal, a1, w1, hQ, StepsIn.trans harr (.one (fenced_calm hb hr rfl) stepR_inScope)⟩
    | exit i => exact ⟨_, a1, w1, hQ, fun k' hk => harr.1 k' hk, fun hr' hk => harr.2 hr' hk⟩
    | goto l =>
      have hn := hx l rfl
      have hg : gotoIn l (.inScope body :: k) = gotoIn l k := by simp [gotoIn, hn]
      exact ⟨_, a1, w1, hQ, fun k' hk => harr.1 k' (by rw [hg]; exact hk), fun hr' hk => harr.2 hr' (by rw [hg]; exact hk)⟩
    | ret => exact ⟨_, a1, w1, hQ, harr⟩
  | @jump c rest l tmA tmB tmC hA hB hC mA mB mC x a hl s ih =>
    intro F n ρ ac w0 Q hF st hq b k cs hro hb hr
    obtain ⟨e, a1, w1, hqq, harr⟩ := a F n ρ ac w0 (fun e a w => e = .goto l ∧ ∃ ρ1, Aft P ρ hA w0 hB ρ1 w ∧ St P N F ρ1 tmB hB mB a w) hF st (fun e ρ1 a1 w1 he haft st1 => ⟨by cases he; rfl, ρ1, haft, st1⟩) b (.inScope body :: k) cs hro hb hr
    obtain ⟨rfl, ρ1, haft, st1⟩ := hqq
    have hg : gotoIn l (.inScope body :: k) = some (.code rest :: .inScope body :: k) := by simp [gotoIn, hl]
    obtain ⟨e, a2, w2, hQ, harr2⟩ := ih F n ρ1 a1 w1 Q hF st1 (fun e ρ2 a2 w2 he haft2 st2 => hq e ρ2 a2 w2 he (haft.trans haft2) st2) b k cs hro hb hr
    exact ⟨e, a2, w2, hQ, .of_steps (harr.1 _ hg) harr2⟩
theorem Scopes.ok {body : Code} {tm tm1 : T V} {h h1 : H} {m m1 : List Nat} {x : X} (s : Scopes P N body body tm h m x tm1 h1 m1) : CodeOk P N (.scope body) tm h m x tm1 h1 m1 := by
  intro F n ρ a w Q hF st hq b k cs hro hb hr
  obtain ⟨e, a', w', hQ, harr⟩ := s.arrives F n ρ a w Q hF st hq b k cs hro hb hr
  exact ⟨e, a', w', hQ, .of_steps (.one (fenced_calm hb hr rfl) stepR_scope) harr⟩
end Go.Ev
/-
  ENGINE, PART 29: ranges over functions.
-/
namespace Go.Ev
variable {P : Program} {N : Nat}

/-- what is known of all code -/
def CodesOk (P : Program) (sf : Self) : Prop := ∀ (c : Code) (tm : T V) (h : H) (m : List Nat) (k : KX), h.ok → sf.code c tm h m k = true → ∃ x tm' h' m', k x tm' h' m' = true ∧ h'.ok ∧ Ext h h' ∧ ∀ N, codeBnd N P.globals.size c = true → CodeOk P N c tm h m x tm' h' m'
theorem elim_true {x : X} {n r : Bool} {e g : Nat → Bool} (h : x.elim n e g r = true) : (x = .normal ∧ n = true) ∨ (∃ i, x = .exit i ∧ e i = true) ∨ (∃ l, x = .goto l ∧ g l = true) ∨ (x = .ret ∧ r = true) := by
  cases x with
  | normal => exact .inl ⟨rfl, h⟩
  | exit i => exact .inr (.inl ⟨i, rfl, h⟩)
  | goto l => exact .inr (.inr (.inl ⟨l, rfl, h⟩))
  | ret => exact .inr (.inr (.inr ⟨rfl, h⟩))
theorem ifReady_true {s : LoopState} {k : Bool} (h : ifReady s k = true) : s = .ready ∧ k = true := by cases s <;> first | exact ⟨rfl, h⟩ | cases h
theorem ifBusy_true {s : LoopState} {k : Bool} (h : ifBusy s k = true) : s = .busy ∧ k = true := by cases s <;> first | exact ⟨rfl, h⟩ | cases h
theorem ifOpen_true {s : LoopState} {k : Bool} (h : ifOpen s k = true) : s ≠ .busy ∧ k = true := by cases s <;> first | exact ⟨by simp, h⟩ | cases h
theorem isJump_bnd {c : Code} (h : isJump c = true) (n g : Nat) : codeBnd n g c = true := by cases c <;> first | rfl | cases h
theorem loop_at {ρ : Ren} {h : H} {w : World} (hr : HR P ρ h w) {l c s n d : Nat} {wl : Wl} {st : LoopState} {pend : Option Code} {tm : T V} {ps : List Nat} {asg body : Code} (hb : ρ l = some (c, s, wl)) (hg : h.get l = some (.loop st pend tm n ps asg body d)) :
    ∃ r : Loop, w.heap[c]? = some (.loop r) ∧ r.state = st ∧ r.pending = pend ∧ r.params.toList = ps ∧ r.assign = asg ∧ r.body = body ∧ TR ρ tm r.tmps ∧ (∃ c s' w', ρ d = some (c, s', w') ∧ r.defers = c) ∧ codeBnd r.tmps.size n asg = true ∧ codeBnd r.tmps.size n body = true ∧ ∀ p ∈ ps, p < r.tmps.size := by
  obtain ⟨ob, h1, r, rfl, h2⟩ := hr.obj _ _ _ _ _ hb hg
  exact ⟨r, h1, h2⟩
theorem getLoop_run {w : World} {c : Nat} {r : Loop} (h : w.heap[c]? = some (.loop r)) : (Instr.getLoop c).run P w = .ok r w := by
  simp only [Instr.getLoop, Sem.run_bind, getObj_run (fun _ _ _ => by simp) h, Result.andThen_ok]; rfl
/-- the record of a loop is written: its state and what is pending -/
theorem loop_put {ρ : Ren} {h : H} {w : World} (hr : HR P ρ h w) {l c s n d : Nat} {wl : Wl} {st st' : LoopState} {pend pend' : Option Code} {tm : T V} {ps : List Nat} {asg body : Code} {r : Loop} (hb : ρ l = some (c, s, wl)) (hg : h.get l = some (.loop st pend tm n ps asg body d))
    (hh : w.heap[c]? = some (.loop r)) : (setObj c (.loop { r with state := st', pending := pend' })).run P w = .ok () (w.putB c (.loop { r with state := st', pending := pend' })) ∧
      Aft P ρ h w (h.put l (some (.loop st' pend' tm n ps asg body d))) ρ (w.putB c (.loop { r with state := st', pending := pend' })) := by
  obtain ⟨r', hh', h1, h2, h3, h4, h5, h6, h7, h8⟩ := loop_at hr hb hg
  rw [hh] at hh'; cases hh'
  refine ⟨setObj_run hh (fun _ _ _ => by simp) (fun _ _ _ => by simp), Mv.store (ob' := .loop { r with state := st', pending := pend' }) hb hg rfl, Nw.refl _ _, hr.store hb hg rfl ⟨_, rfl, rfl, rfl, h3, h4, h5, h6, h7, h8⟩⟩
theorem setPs_true : ∀ {ps : List Nat} {vs : List V} {t : T V} {k : T V → Bool}, setPs ps vs t k = true → ∃ t', k t' = true ∧ vs.length = ps.length ∧ ∀ (ρ : Ren) (xs : List Value) (tmps : Array Value), VRL ρ vs xs → TR ρ t tmps → (∀ p ∈ ps, p < tmps.size) →
      TR ρ t' ((ps.zip xs).foldl (fun tmps (p : Nat × Value) => tmps.setIfInBounds p.1 p.2) tmps)
  | [], vs, t, k, h => by
    cases vs with
    | nil => exact ⟨t, h, rfl, fun ρ xs tmps hv ht _ => by simpa using ht⟩
    | cons v vs => cases h
  | p :: ps, vs, t, k, h => by
    cases vs with
    | nil => cases h
    | cons v vs =>
      have h1 : t.putK (some v) p (fun t' => setPs ps vs t' k) = true := h
      rw [T.putK_eq] at h1
      obtain ⟨t', h2, h3, h4⟩ := setPs_true h1
      refine ⟨t', h2, by simp [h3], fun ρ xs tmps hv ht hp => ?_⟩
      obtain ⟨x, xs, rfl, hx, hxs⟩ := hv.cons_inv
      simp only [List.zip_cons_cons, List.foldl_cons]
      exact h4 ρ xs _ hxs (ht.put (hp p (by simp)) hx) (fun q hq => by simpa using hp q (by simp [hq]))
theorem size_setPs : ∀ (l : List (Nat × Value)) (tmps : Array Value), (l.foldl (fun tmps (p : Nat × Value) => tmps.setIfInBounds p.1 p.2) tmps).size = tmps.size
  | [], _ => rfl
  | p :: l, tmps => by simp only [List.foldl_cons]; rw [size_setPs l]; simp
theorem roundBody_ok {sf : Self} (hc : CodesOk P sf) {l : Nat} {body : Code} {t1 : T V} {h1 : H} {k : V → H → Bool} (hok : h1.ok) (hk : roundBody sf l body t1 h1 k = true) : ∃ v h', k v h' = true ∧ h'.ok ∧ Ext h1 h' ∧
    ∀ (N : Nat), codeBnd N P.globals.size body = true → ∀ (F : Fence) (n : Nat) (ρ : Ren) (a : Act) (w : World) (c s : Nat) (wl : Wl), FW F → ρ l = some (c, s, wl) → St P N (F.inRound c) ρ t1 h1 [0] a w →
      ∃ w2, (Instr.beginRound c).run P w = .ok () w2 ∧ body.wpIn (F.inRound c) n P (roundPost P c (Ends P ρ h1 w v h')) a w2 := by
  obtain ⟨st, pend, tm, n1, ps, asg, bd, d, hg, hk⟩ := loopK_true.1 hk
  obtain ⟨rfl, hk⟩ := ifReady_true hk
  rw [H.putK_eq] at hk
  have hok2 : (h1.put l (some (.loop .busy pend tm n1 ps asg bd d))).ok := hok.put (hok _ _ hg)
  obtain ⟨x, t3, h3, m3, hk2, hok3, hext, hcode⟩ := hc body t1 _ [0] _ hok2 hk
  have begin' : ∀ (ρ : Ren) (w : World) (c s : Nat) (wl : Wl), HR P ρ h1 w → ρ l = some (c, s, wl) → ∃ w2, (Instr.beginRound c).run P w = .ok () w2 ∧ Aft P ρ h1 w (h1.put l (some (.loop .busy pend tm n1 ps asg bd d))) ρ w2 := by
    intro ρ w c s wl hr hb
    obtain ⟨r, hh, e1, e2, e3⟩ := loop_at hr hb hg
    obtain ⟨g1, g2⟩ := loop_put (st' := .busy) (pend' := pend) hr hb hg hh
    have er : ({ r with state := .busy, pending := pend } : Loop) = { r with state := .busy } := by rw [← e2]
    rw [er] at g1 g2
    refine ⟨_, ?_, g2⟩
    simp only [Instr.beginRound, Sem.run_bind, getLoop_run hh, Result.andThen_ok, g1, e1]; rfl
  -- the end of the round
  have fin : ∀ (j : Option Code) (v : V) (st' : LoopState), (v = .bool j.isNone) → (st' = if j.isNone then .ready else .done) →
      (loopK h3 l fun s' _ tm n ps asg bd d => ifBusy s' (h3.putK l (some (.loop st' j tm n ps asg bd d)) (k v))) = true →
      (∀ e, X.is x e → ∀ (R : Ending → World → Prop) (c : Nat) (a : Act) (w : World), (∃ v w', (Instr.endRound c j).run P w = .ok v w' ∧ R (.returned v) w') → roundPost P c R e a w) →
      ∃ v h', k v h' = true ∧ h'.ok ∧ Ext h1 h' ∧ ∀ (N : Nat), codeBnd N P.globals.size body = true → ∀ (F : Fence) (n : Nat) (ρ : Ren) (a : Act) (w : World) (c s : Nat) (wl : Wl), FW F → ρ l = some (c, s, wl) → St P N (F.inRound c) ρ t1 h1 [0] a w →
        ∃ w2, (Instr.beginRound c).run P w = .ok () w2 ∧ body.wpIn (F.inRound c) n P (roundPost P c (Ends P ρ h1 w v h')) a w2 := by
    intro j v st' hv hst hk3 hpost
    obtain ⟨s3, p3, tm3, n3, ps3, asg3, bd3, d3, hg3, hk3⟩ := loopK_true.1 hk3
    obtain ⟨rfl, hk3⟩ := ifBusy_true hk3
    rw [H.putK_eq] at hk3
    refine ⟨v, _, hk3, hok3.put (hok3 _ _ hg3), ((Ext.put _ _ _).trans hext).trans (Ext.put _ _ _), fun N hN F n ρ a w c s wl hF hb st => ?_⟩
    obtain ⟨w2, b1, b2⟩ := begin' ρ w c s wl st.hr hb
    refine ⟨w2, b1, hcode N hN (F.inRound c) n ρ a w2 _ (hF.inRound c) ⟨b2.hr, st.tr, st.df, st.size, st.round⟩ fun e ρ' a' w' he haft stE => ?_⟩
    refine hpost e he _ c a' w' ?_
    have hb' := haft.mv.le _ _ hb
    obtain ⟨r, hh, e1, e2, e3⟩ := loop_at stE.hr hb' hg3
    obtain ⟨g1, g2⟩ := loop_put (st' := st') (pend' := j) stE.hr hb' hg3 hh
    refine ⟨.bool j.isNone, _, ?_, .bool j.isNone, ρ', rfl, (b2.trans haft).trans g2, by subst hv; exact VR.bool _⟩
    simp only [Instr.endRound, Sem.run_bind, getLoop_run hh, Result.andThen_ok]
    rw [← hst, g1]; rfl
  rcases elim_true (show x.elim _ _ _ _ = true from hk2) with ⟨rfl, hk3⟩ | ⟨i, rfl, hk3⟩ | ⟨i, rfl, hk3⟩ | ⟨rfl, hk3⟩
  · exact fin none (.bool true) .ready rfl rfl hk3 fun e he R c a w h => by cases he; exact h
  · exact fin (some (.exit i)) (.bool false) .done rfl rfl hk3 fun e he R c a w h => by cases he; exact h
  · exact fin (some (.goto i)) (.bool false) .done rfl rfl hk3 fun e he R c a w h => by cases he; exact h
  · exact fin (some .ret) (.bool false) .done rfl rfl hk3 fun e he R c a w h => by cases he; exact h
theorem round_ok {sf : Self} (hc : CodesOk P sf) {l : Nat} {args : List V} {h : H} {k : V → H → Bool} (hok : h.ok) (hk : stepRound P sf l args h k = true) : ∃ v h', k v h' = true ∧ h'.ok ∧ Ext h h' ∧ RoundOk P l args h v h' := by
  obtain ⟨st, pend, tm, n, ps, asg, body, d, hg, hk⟩ := loopK_true.1 hk
  obtain ⟨hn, hk1⟩ := bg_true.1 hk
  rw [nbeq, decide_eq_true_iff] at hn; subst hn
  obtain ⟨t0, hk2, hlen, hps⟩ := setPs_true hk1
  obtain ⟨x, t1, h1, m1, hk3, hok1, hext1, hasg⟩ := hc asg t0 h [0] _ hok hk2
  rcases elim_true (show x.elim _ _ _ _ = true from hk3) with ⟨rfl, hk4⟩ | ⟨i, rfl, hk4⟩ | ⟨i, rfl, hk4⟩ | ⟨rfl, hk4⟩ <;> try (cases hk4; done)
  obtain ⟨v, h', g1, g2, g3, g4⟩ := roundBody_ok hc hok1 hk4
  refine ⟨v, h', g1, g2, hext1.trans g3, fun F n ρ w xs c s wl hF hr hb hv => ?_⟩
  obtain ⟨r, hh, e1, e2, e3, e4, e5, e6, ⟨cd, sd, wd, e7, e8⟩, e9, e10, e11⟩ := loop_at hr hb hg
  let tmps := (r.params.zip xs).foldl (fun tmps (t, a) => tmps.setIfInBounds t a) r.tmps
  have htm : tmps = (ps.zip xs.toList).foldl (fun tmps (p : Nat × Value) => tmps.setIfInBounds p.1 p.2) r.tmps := by
    simp only [tmps, ← Array.foldl_toList, Array.toList_zip, e3]
  have hsz : tmps.size = r.tmps.size := by rw [htm, size_setPs]
  refine ⟨r.fn, tmps, r.assign, r.body, ?_, ?_⟩
  · have hxl : xs.size = r.params.size := by
      have h1 := hv.length
      have h2 : r.params.toList.length = ps.length := by rw [e3]
      simp at h1 h2; omega
    simp only [Instr.yield, Sem.run_bind, getLoop_run hh, Result.andThen_ok]
    rw [if_neg (by simp [hxl])]
    simp only [Sem.run_bind, Sem.run_pure, Result.andThen_ok]
    rfl
  · refine roundIn_of_wpIn (hF.fn _) ?_
    rw [e4, e5]
    have st0 : St P r.tmps.size (F.inRound c) ρ t0 h [0] { tmps := tmps, defers := [] } w := ⟨hr, by rw [htm]; exact hps ρ xs.toList r.tmps hv e6 e11, .inl ⟨rfl, rfl⟩, hsz, .inl rfl⟩
    refine hasg r.tmps.size e9 (F.inRound c) n ρ _ w _ (hF.inRound c) st0 fun e ρ1 a1 w1 he haft st1 => ?_
    cases he
    have hm1 : m1 = [0] := st1.round.resolve_right (by simp)
    subst hm1
    obtain ⟨w2, b1, b2⟩ := g4 r.tmps.size e10 F n ρ1 a1 w1 c s wl hF (haft.mv.le _ _ hb) st1
    refine ⟨w2, b1, wpIn_mono b2 fun e a3 w3 he => ?_⟩
    have ends : ∀ e w', Ends P ρ1 h1 w1 v h' e w' → Ends P ρ h w v h' e w' := fun e w' ⟨x, ρ', e1, e2, e3⟩ => ⟨x, ρ', e1, haft.trans e2, e3⟩
    cases e <;> first | exact he | (obtain ⟨v', w', q1, q2⟩ := he; exact ⟨v', w', q1, ends _ _ q2⟩)
end Go.Ev
/-
  ENGINE, PART 30: what a call leaves.
-/
namespace Go.Ev
variable {P : Program} {N : Nat}

/-! ### back to the old names -/
theorem FR.back {ρ ρ' : Ren} (h : ρ.le ρ') {f f0 f1 : Fn} (a : FR ρ f f0) (b : FR ρ' f f1) : FR ρ f f1 := by
  cases f with
  | yield l =>
    obtain ⟨c, s, w, hr, _⟩ := a
    obtain ⟨c', s', w', hr', e⟩ := b
    rw [h _ _ hr] at hr'; cases hr'
    exact ⟨_, _, _, hr, e⟩
  | _ => exact b
mutual
theorem VR.back {ρ ρ' : Ren} (h : ρ.le ρ') : ∀ (v : V) (x y : Value), VR ρ v x → VR ρ' v y → VR ρ v y
  | .bool a, x, y, _, hy => by simpa [VR] using hy
  | .int k n, x, y, _, hy => by simpa [VR] using hy
  | .str s, x, y, _, hy => by simpa [VR] using hy
  | .nilp, x, y, _, hy => by simpa [VR] using hy
  | .ptr b o, x, y, hx, hy => by
    simp only [VR] at hx hy ⊢
    obtain ⟨c, s, w, hr, _⟩ := hx
    obtain ⟨c', s', w', hr', e⟩ := hy
    rw [h _ _ hr] at hr'; cases hr'
    exact ⟨_, _, _, hr, e⟩
  | .nils, x, y, _, hy => by simpa [VR] using hy
  | .slice b o l cp, x, y, hx, hy => by
    simp only [VR] at hx hy ⊢
    obtain ⟨c, s, w, a, cp', hr, _⟩ := hx
    obtain ⟨c', s', w', a', cp2, hr', e⟩ := hy
    rw [h _ _ hr] at hr'; cases hr'
    exact ⟨_, _, _, _, _, hr, e⟩
  | .nilm, x, y, _, hy => by simpa [VR] using hy
  | .map b, x, y, hx, hy => by
    simp only [VR] at hx hy ⊢
    obtain ⟨c, s, w, hr, _⟩ := hx
    obtain ⟨c', s', w', hr', e⟩ := hy
    rw [h _ _ hr] at hr'; cases hr'
    exact ⟨_, _, _, hr, e⟩
  | .nilf, x, y, _, hy => by simpa [VR] using hy
  | .fn f a b, x, y, hx, hy => by
    simp only [VR] at hx hy ⊢
    obtain ⟨f', a', b', _, hf, ha, hb⟩ := hx
    obtain ⟨f2, a2, b2, e, hf2, ha2, hb2⟩ := hy
    exact ⟨f2, a2, b2, e, hf.back h hf2, VRL.back h a _ _ ha ha2, VRL.back h b _ _ hb hb2⟩
  | .nili, x, y, _, hy => by simpa [VR] using hy
  | .iface t v, x, y, hx, hy => by
    simp only [VR] at hx hy ⊢
    obtain ⟨z, _, hv⟩ := hx
    obtain ⟨z2, e, hv2⟩ := hy
    exact ⟨z2, e, VR.back h v _ _ hv hv2⟩
  | .agg cs, x, y, hx, hy => by
    simp only [VR] at hx hy ⊢
    obtain ⟨a, _, ha⟩ := hx
    obtain ⟨a2, e, ha2⟩ := hy
    exact ⟨a2, e, VRL.back h cs _ _ ha ha2⟩
  | .tuple cs, x, y, hx, hy => by
    simp only [VR] at hx hy ⊢
    obtain ⟨a, _, ha⟩ := hx
    obtain ⟨a2, e, ha2⟩ := hy
    exact ⟨a2, e, VRL.back h cs _ _ ha ha2⟩
theorem VRL.back {ρ ρ' : Ren} (h : ρ.le ρ') : ∀ (v : List V) (x y : List Value), VRL ρ v x → VRL ρ' v y → VRL ρ v y
  | [], x, y, _, hy => by simpa [VRL] using hy
  | v :: vs, x, y, hx, hy => by
    simp only [VRL] at hx hy ⊢
    obtain ⟨z, zs, _, h1, h2⟩ := hx
    obtain ⟨u, us, e, h3, h4⟩ := hy
    exact ⟨u, us, e, VR.back h v _ _ h1 h3, VRL.back h vs _ _ h2 h4⟩
end
theorem MR.back {ρ ρ' : Ren} (h : ρ.le ρ') {es : List (V × V)} {l0 : List MapEntry} (a : MR ρ es l0) : ∀ {l : List MapEntry}, MR ρ' es l → MR ρ es l := by
  induction a with
  | nil => intro l b; cases b; exact .nil
  | cons hk hv _ ih => intro l b; cases b with | cons hk' hv' b' => exact .cons (hk.back h _ _ _ hk') (hv.back h _ _ _ hv') (ih b')
theorem TR.back {ρ ρ' : Ren} (h : ρ.le ρ') {tm : T V} {t0 t1 : Array Value} (a : TR ρ tm t0) (b : TR ρ' tm t1) : TR ρ tm t1 := fun i v hv =>
  let ⟨_, _, h1⟩ := a i v hv; let ⟨y, hy, h2⟩ := b i v hv; ⟨y, hy, h1.back h _ _ _ h2⟩
theorem OR.back {ρ ρ' : Ren} (h : ρ.le ρ') {s : Nat} {w : Wl} {o : Ob} {o0 o1 : Go.Obj} (a : OR ρ s w o o0) (b : OR ρ' s w o o1) : OR ρ s w o o1 := by
  cases o with
  | row n cs e wl ro fz =>
    obtain ⟨_, c0, fr0, _, r0, _⟩ := a
    obtain ⟨hw, c1, fr1, e1, r1, hz⟩ := b
    exact ⟨hw, c1, fr1, e1, ⟨r1.fits, r1.exact_, fun i v hi hv => let ⟨_, _, h1⟩ := r0.cell i v hi hv; let ⟨y, hy, h2⟩ := r1.cell i v hi hv; ⟨y, hy, h1.back h _ _ _ h2⟩, r1.free⟩, hz⟩
  | map es =>
    obtain ⟨_, _, _, m0, _⟩ := a
    obtain ⟨l, clock, e, m1, hb⟩ := b
    exact ⟨l, clock, e, m0.back h m1, hb⟩
  | siter rest pos => exact b
  | loop st pend tm n ps asg body d =>
    obtain ⟨_, _, _, _, _, _, _, t0, ⟨c0, s0, w0, hd0, _⟩, _⟩ := a
    obtain ⟨l, e, h1, h2, h3, h4, h5, t1, ⟨c, s', w', hd, hc⟩, hb⟩ := b
    rw [h _ _ hd0] at hd; cases hd
    exact ⟨l, e, h1, h2, h3, h4, h5, t0.back h t1, ⟨_, _, _, hd0, hc⟩, hb⟩
  | defs => exact b
/-- the old heap again: nothing of it was written, and nothing new is asked for -/
theorem Aft.back {ρ ρ' : Ren} {h h' : H} {w w' : World} (hr : HR P ρ h w) (a : Aft P ρ h w h' ρ' w') (hsame : ∀ b, b < h.next → h'.get b = h.get b) : Aft P ρ h w h ρ w' := by
  refine ⟨⟨.refl _, Nat.le_refl _, a.mv.size, a.mv.keep, fun b c s wl o hb hg hf _ => ⟨b, s, wl, o, hb, hg, hf⟩, a.mv.os⟩, Nw.refl _ _, ⟨fun b c s wl hb => ?_, fun b c s wl o hb hg => ?_, hr.inj, hr.glob⟩⟩
  · have := hr.dom _ _ _ _ hb; exact ⟨this.1, Nat.lt_of_lt_of_le this.2 a.mv.size⟩
  · have hlt := (hr.dom _ _ _ _ hb).1
    obtain ⟨ob0, _, h2⟩ := hr.obj _ _ _ _ _ hb hg
    obtain ⟨ob, h3, h4⟩ := a.hr.obj _ _ _ _ _ (a.mv.le _ _ hb) (by rw [hsame b hlt]; exact hg)
    exact ⟨ob, h3, h2.back a.mv.le h4⟩

/-! ### marks -/
theorem HR.killPut {ρ : Ren} {h : H} {w : World} (hr : HR P ρ h w) {b c s : Nat} {wl : Wl} {o : Ob} {ob' : Go.Obj} (hb : ρ b = some (c, s, wl)) (hg : h.get b = some o) (hro : o.ro = false) : HR P ρ (h.put b none) (w.putB c ob') := by
  have other : ∀ y d s' wl' oy, ρ y = some (d, s', wl') → h.get y = some oy → y ≠ b → d ≠ c := fun y d s' wl' oy hy hgy hne e => by
    subst e
    rcases hr.inj _ _ _ _ _ _ _ _ _ hy hb hgy hg with e | e
    · exact hne e
    · rw [hro] at e; cases e.2
  refine ⟨fun y d s' wl' hy => by simpa using hr.dom _ _ _ _ hy, fun y d s' wl' oy hy hgy => ?_, (hr.kill b).inj, hr.glob⟩
  rw [H.get_put] at hgy
  by_cases e : y = b
  · subst e; rw [if_pos rfl] at hgy; cases hgy
  · rw [if_neg e] at hgy
    obtain ⟨ob, h1, h2⟩ := hr.obj _ _ _ _ _ hy hgy
    exact ⟨ob, by rw [heap_putB_other (other _ _ _ _ _ hy hgy e)]; exact h1, h2⟩
theorem Mv.killPut {ρ : Ren} {h : H} {w : World} {b c s : Nat} {wl : Wl} {o : Ob} {ob' : Go.Obj} (hb : ρ b = some (c, s, wl)) (hg : h.get b = some o) (hro : o.ro = false) : Mv ρ h w ρ (h.put b none) (w.putB c ob') := by
  refine ⟨.refl _, Nat.le_refl _, by simp, fun d hd hk => ?_, fun y d s' wl' oy hy hgy hf _ => ?_, rfl, rfl, rfl⟩
  · refine heap_putB_other fun e => ?_
    subst e
    rw [hk _ _ _ _ hb hg] at hro; cases hro
  · rw [H.get_put] at hgy
    split at hgy
    · cases hgy
    · exact ⟨y, s', wl', oy, hy, hgy, hf⟩
theorem isDefs_true {o : Option Ob} (h : isDefs o = true) : o = some .defs := by
  cases o with
  | none => cases h
  | some o => cases o <;> first | rfl | cases h
/-- the marks of an activation, one by one -/
def Marks (ρ : Ren) : List Nat → List Deferred → Prop
  | [], ds => ds = []
  | d :: m, ds => ∃ x ds', ds = x :: ds' ∧ (∃ c s wl, ρ d = some (c, s, wl) ∧ x.target = .collected c) ∧ Marks ρ m ds'
theorem DF.marks {ρ : Ren} : ∀ {m : List Nat} {ds : List Deferred}, ds.length = m.length → (∀ (i d : Nat), m[i]? = some d → ∃ c s wl, ∃ x : Deferred, ρ d = some (c, s, wl) ∧ ds[i]? = some x ∧ x.target = .collected c) → Marks ρ m ds
  | [], ds, hl, _ => List.length_eq_zero_iff.1 (by simpa using hl)
  | d :: m, ds, hl, h => by
    cases ds with
    | nil => simp at hl
    | cons x ds =>
      obtain ⟨c, s, wl, y, h1, h2, h3⟩ := h 0 d rfl
      simp at h2; subst h2
      exact ⟨x, ds, rfl, ⟨c, s, wl, h1, h3⟩, DF.marks (by simpa using hl) fun i d hd => by have := h (i + 1) d (by simpa using hd); simpa using this⟩
theorem killK_true {fn : Func} : ∀ {m : List Nat} {h : H} {k : H → Bool}, h.ok → killK m h k = true → ∃ h', k h' = true ∧ h'.ok ∧ Ext h h' ∧
    (∀ (ρ : Ren) (w : World), HR P ρ h w → Aft P ρ h w h' ρ w) ∧
    ∀ (F : Fence) (n : Nat) (ρ : Ren) (w : World) (ds : List Deferred) (tmps : Array Value) (R : Ending → World → Prop), HR P ρ h w → Marks ρ m ds → (∀ w', Aft P ρ h w h' ρ w' → LeavesInM F n P fn tmps R [] .returning w') → LeavesInM F n P fn tmps R ds .returning w
  | [], h, k, hok, hk => ⟨h, hk, hok, Ext.refl _, fun ρ w hr => Aft.refl hr, fun F n ρ w ds tmps R hr hm hq => by simp only [Marks] at hm; subst hm; exact hq w (Aft.refl hr)⟩
  | d :: m, h, k, hok, hk => by
    obtain ⟨h1, h2⟩ := bg_true.1 (show bg (isDefs (h.get d)) (h.putK d none fun h' => killK m h' k) = true from hk)
    have hg := isDefs_true h1
    rw [H.putK_eq] at h2
    obtain ⟨h', g1, g2, g3, g4, g5⟩ := killK_true (hok.put (hok _ _ hg)) h2
    refine ⟨h', g1, g2, (Ext.put _ _ _).trans g3, fun ρ w hr => ?_, fun F n ρ w ds tmps R hr hm hq => ?_⟩
    · have a1 : Aft P ρ h w (h.put d none) ρ w := ⟨Mv.kill _ _ _ _, Nw.refl _ _, hr.kill d⟩
      exact a1.trans (g4 ρ w (hr.kill d))
    · obtain ⟨x, ds', rfl, ⟨c, s, wl, hd, hx⟩, hm'⟩ := hm
      obtain ⟨ob, ho, hor⟩ := hr.obj _ _ _ _ _ hd hg
      have hor' : ob = .deferred (some []) := hor
      subst hor'
      have a1 : Aft P ρ h w (h.put d none) ρ (w.putB c (.deferred none)) := ⟨Mv.killPut hd hg rfl, Nw.refl _ _, hr.killPut hd hg rfl⟩
      refine ⟨by simp, .inl ⟨c, w.putB c (.deferred none), hx, ?_, g5 F n ρ _ ds' tmps R a1.hr hm' fun w' haft => hq w' (a1.trans haft)⟩⟩
      simp only [Instr.takeDeferred, Sem.run_bind, getObj_run (fun _ _ _ => by simp) ho, Result.andThen_ok, setObj_run ho (fun _ _ _ => by simp) (o' := .deferred none) (fun _ _ _ => by simp)]; rfl

/-! ### results -/
theorem resL_true : ∀ {l : List ResultVar} {tm : T V} {h : H} {k : List V → Bool}, h.ok → resL P l tm h k = true → ∃ vs, k vs = true ∧ ∀ (ρ : Ren) (w : World) (tmps : Array Value), HR P ρ h w → TR ρ tm tmps →
    ∃ xs, (Sem.run P (l.mapM fun | .tmp t => pure (tmps.getD t undef) | .cell a t => do loadVar t (← asAddr (tmps.getD a undef))) w) = .ok xs w ∧ VRL ρ vs xs
  | [], tm, h, k, hok, hk => ⟨[], hk, fun ρ w tmps hr ht => ⟨[], rfl, VRL.nil⟩⟩
  | r :: l, tm, h, k, hok, hk => by
    have h1 : resOne P r tm h (fun v => resL P l tm h fun l => k (v :: l)) = true := hk
    have one : ∃ v, (resL P l tm h fun l => k (v :: l)) = true ∧ ∀ (ρ : Ren) (w : World) (tmps : Array Value), HR P ρ h w → TR ρ tm tmps → ∃ x, (Sem.run P (match r with | .tmp t => pure (tmps.getD t undef) | .cell a t => do loadVar t (← asAddr (tmps.getD a undef))) w) = .ok x w ∧ VR ρ v x := by
      cases r with
      | tmp t =>
        obtain ⟨v, hv, h2⟩ := og_true.1 h1
        refine ⟨v, h2, fun ρ w tmps hr ht => ?_⟩
        obtain ⟨x, hx, hvx⟩ := ht t v hv
        exact ⟨x, by simp [Array.getD_eq_getD_getElem?, hx], hvx⟩
      | cell a t =>
        obtain ⟨p, hp, h2⟩ := og_true.1 h1
        obtain ⟨v, h3, h4⟩ := loadK_true (P := P) hok h2
        refine ⟨v, h3, fun ρ w tmps hr ht => ?_⟩
        obtain ⟨x, hx, hpx⟩ := ht a p hp
        obtain ⟨y, h5, h6⟩ := h4 h (Ag.refl _) ρ w x hr hpx
        refine ⟨y, ?_, h6⟩
        have e : tmps.getD a undef = x := by simp [Array.getD_eq_getD_getElem?, hx]
        obtain ⟨b, off, rfl, _⟩ := vPtr_true.1 h2
        obtain ⟨c, s, wl, _, rfl⟩ := hpx.ptr_inv
        simp only [e, asAddr, Sem.run_bind, Sem.run_pure, Result.andThen_ok]
        simpa only [Instr.loadAt, Instr.sureAddr, Sem.run_bind, Sem.run_pure, Result.andThen_ok] using h5
    obtain ⟨v, h2, h3⟩ := one
    obtain ⟨vs, h4, h5⟩ := resL_true hok h2
    refine ⟨v :: vs, h4, fun ρ w tmps hr ht => ?_⟩
    obtain ⟨x, e1, e2⟩ := h3 ρ w tmps hr ht
    obtain ⟨xs, e3, e4⟩ := h5 ρ w tmps hr ht
    refine ⟨x :: xs, ?_, VRL.cons e2 e4⟩
    simp only [List.mapM_cons, Sem.run_bind, e1, Result.andThen_ok, e3]; rfl
theorem resK_true {fn : Func} {tm : T V} {h : H} {k : V → Bool} (hok : h.ok) (hk : resK P fn.results.toList tm h k = true) : ∃ v, k v = true ∧ ∀ (ρ : Ren) (w : World) (tmps : Array Value), HR P ρ h w → TR ρ tm tmps → ∃ x, (results fn tmps).run P w = .ok x w ∧ VR ρ v x := by
  obtain ⟨vs, h1, h2⟩ := resL_true hok hk
  have run : ∀ (ρ : Ren) (w : World) (tmps : Array Value), HR P ρ h w → TR ρ tm tmps → ∃ xs : List Value, VRL ρ vs xs ∧ (results fn tmps).run P w = .ok (if hx : xs.toArray.size = 1 then xs.toArray[0] else .tuple xs.toArray) w := by
    intro ρ w tmps hr ht
    obtain ⟨xs, e1, e2⟩ := h2 ρ w tmps hr ht
    refine ⟨xs, e2, ?_⟩
    simp only [results, Sem.run_bind]
    rw [Array.mapM_eq_mapM_toList]
    simp only [Sem.run_map]
    have e3 := e1
    refine Eq.trans (congrArg (fun r => Result.andThen (Result.andThen r _) _) e3) ?_
    rfl
  match vs, h1, run with
  | [], h1, run =>
    refine ⟨_, h1, fun ρ w tmps hr ht => ?_⟩
    obtain ⟨xs, e1, e2⟩ := run ρ w tmps hr ht
    have := e1.nil_inv; subst this
    exact ⟨_, e2, VR.undef⟩
  | [v], h1, run =>
    refine ⟨_, h1, fun ρ w tmps hr ht => ?_⟩
    obtain ⟨xs, e1, e2⟩ := run ρ w tmps hr ht
    obtain ⟨x, xs, rfl, e3, e4⟩ := e1.cons_inv
    have := e4.nil_inv; subst this
    exact ⟨_, e2, e3⟩
  | v :: v2 :: vs, h1, run =>
    refine ⟨_, h1, fun ρ w tmps hr ht => ?_⟩
    obtain ⟨xs, e1, e2⟩ := run ρ w tmps hr ht
    have hl := e1.length
    refine ⟨_, e2, ?_⟩
    rw [dif_neg (by simp at hl ⊢; omega)]
    simp only [VR]; exact ⟨_, rfl, by simpa using e1⟩
end Go.Ev
/-
  ENGINE, PART 31: calls of functions; ranges over functions.
-/
namespace Go.Ev
variable {P : Program}

def H.fresh (h : H) : H := ⟨h.next, h.next, h.tab⟩
theorem HR.fresh {ρ : Ren} {h : H} {w : World} (hr : HR P ρ h w) : HR P ρ h.fresh w := ⟨hr.dom, hr.obj, hr.inj, hr.glob⟩
theorem back_true {h h' : H} (hok : h.ok) (hok' : h'.ok) (he : Ext h.fresh h') {v : V} {k : V → H → Bool} (hk : backK h.next h.lo h v h' k = true) : ∃ h2, k v h2 = true ∧ h2.ok ∧ Ext h h2 ∧
    ∀ (ρ : Ren) (w : World) (ρ' : Ren) (w' : World) (x : Value), HR P ρ h w → Aft P ρ h.fresh w h' ρ' w' → VR ρ' v x → ∃ ρ2, Aft P ρ h w h2 ρ2 w' ∧ VR ρ2 v x := by
  have hk' : (v.flat = true ∧ h.next ≤ h'.lo ∧ k v h = true) ∨ k v ⟨h'.next, minN h.lo h'.lo, h'.tab⟩ = true := by
    unfold backK at hk
    cases hf : v.flat with
    | false => rw [hf] at hk; exact .inr hk
    | true =>
      cases hb : Nat.ble h.next h'.lo with
      | false => rw [hf, hb] at hk; exact .inr hk
      | true => rw [hf, hb] at hk; rw [nble, decide_eq_true_iff] at hb; exact .inl ⟨rfl, hb, hk⟩
  have aft : ∀ (ρ : Ren) (w : World) (ρ' : Ren) (w' : World), Aft P ρ h.fresh w h' ρ' w' → Aft P ρ h w h' ρ' w' := fun ρ w ρ' w' a => ⟨⟨a.mv.le, a.mv.next, a.mv.size, a.mv.keep, a.mv.wr, a.mv.os⟩, a.nw, a.hr⟩
  rcases hk' with ⟨hf1, hf2, hk⟩ | hk
  · have hfl : v.flat = true ∧ h.next ≤ h'.lo := ⟨hf1, hf2⟩
    refine ⟨h, hk, hok, Ext.refl _, fun ρ w ρ' w' x hr a hv => ⟨ρ, (aft ρ w ρ' w' a).back hr fun b hb => ?_, hv.flat _ _ hfl.1⟩⟩
    exact he.same b hb (Nat.lt_of_lt_of_le hb hfl.2)
  · have hn := he.next
    have hnext : h.next ≤ h'.next := hn
    refine ⟨_, hk, hok', ⟨hnext, by simp only [minN_eq]; omega, fun b hb hl => ?_⟩, fun ρ w ρ' w' x hr a hv => ⟨ρ', ?_, hv⟩⟩
    · simp only [minN_eq] at hl
      exact he.same b hb (by omega)
    · have a' := aft ρ w ρ' w' a
      exact ⟨⟨a'.mv.le, a'.mv.next, a'.mv.size, a'.mv.keep, a'.mv.wr, a'.mv.os⟩, a'.nw, ⟨a'.hr.dom, a'.hr.obj, a'.hr.inj, a'.hr.glob⟩⟩
/-- no function of the program is the model's own 'runtime.NumGoroutine' -/
def NoNum (P : Program) : Prop := ∀ (f : Nat) (fn : Func), P.funcs[f]? = some fn → fn.body.isSome = true → (fn.name == "runtime.NumGoroutine") = false
theorem callFunc_body (hN : NoNum P) {f : Nat} {fn : Func} {c : Code} (hf : P.funcs[f]? = some fn) (hb : fn.body = some c) (xs : Array Value) (w : World) : (callFunc f xs).run P w = .ok (.enter f xs) w := by
  have h1 := hN f fn hf (by rw [hb]; rfl)
  simp only [callFunc, Sem.run_bind, run_program, Result.andThen_ok, hf, h1, Bool.false_eq_true, if_false, hb, Option.isNone_some]
  rfl
theorem body_ok {sf : Self} (hc : CodesOk P sf) (hN : NoNum P) {f : Nat} {fn : Func} (hf : P.funcs[f]? = some fn) {args : List V} {h : H} {k : V → H → Bool} (hok : h.ok) (hk : bodyK P sf fn args h k = true) :
    ∃ v h', k v h' = true ∧ h'.ok ∧ Ext h h' ∧ CallsForm P f args h v h' := by
  obtain ⟨c, hb, hk⟩ := og_true.1 hk
  obtain ⟨hbnd, hk⟩ := bg_true.1 hk
  obtain ⟨hlen, hk⟩ := bg_true.1 hk
  rw [nble, len0, decide_eq_true_iff] at hlen
  rw [listK_eq] at hk
  have hk1 : sf.code c (T.ofList args 0 .L) h.fresh [] (fun x tm' h' m => x.elim (killK m h' fun h' => resK P fn.results.toList tm' h' fun v => backK h.next h.lo h v h' k) (fun _ => false) (fun _ => false) (killK m h' fun h' => resK P fn.results.toList tm' h' fun v => backK h.next h.lo h v h' k)) = true := hk
  have hokf : h.fresh.ok := hok
  obtain ⟨x, tm1, h1, m1, hk2, hok1, hext1, hcode⟩ := hc c _ h.fresh [] _ hokf hk1
  have hx : (x = .normal ∨ x = .ret) ∧ (killK m1 h1 fun h' => resK P fn.results.toList tm1 h' fun v => backK h.next h.lo h v h' k) = true := by
    rcases elim_true hk2 with ⟨rfl, h⟩ | ⟨i, rfl, h⟩ | ⟨i, rfl, h⟩ | ⟨rfl, h⟩
    · exact ⟨.inl rfl, h⟩
    · cases h
    · cases h
    · exact ⟨.inr rfl, h⟩
  obtain ⟨hx, hk3⟩ := hx
  obtain ⟨h2, hk4, hok2, hext2, hkill, hleave⟩ := killK_true (P := P) (fn := fn) hok1 hk3
  obtain ⟨v, hk5, hres⟩ := resK_true (P := P) hok2 hk4
  obtain ⟨h3, hk6, hok3, hext3, hback⟩ := back_true (P := P) hok hok2 (hext1.trans hext2) hk5
  refine ⟨v, h3, hk6, hok3, hext3, fun xs w => callFunc_body hN hf hb xs w, fun F n ρ w xs hF hro hr hv => ?_⟩
  refine callsIn_of_wp_marks hf hb (hF.fn f) ?_ hro
  have hxs : xs.size = args.length := by have := hv.length; simpa using this
  have st0 : St P fn.ntmps F ρ (T.ofList args 0 .L) h.fresh [] { tmps := xs ++ Array.replicate (fn.ntmps - xs.size) undef, defers := [] } w := by
    refine ⟨hr.fresh, fun i u hu => ?_, .inr ⟨by simp, rfl, fun i d hd => by simp at hd⟩, by simp only [Array.size_append, Array.size_replicate]; omega, .inr hro⟩
    rw [T.get_ofList] at hu
    split at hu
    · rename_i hi
      obtain ⟨y, hy, hyr⟩ := hv.get hu
      rw [Nat.sub_zero] at hy
      refine ⟨y, ?_, hyr⟩
      rw [Array.getElem?_append_left (by omega)]
      simpa using hy
    · cases hu
  refine hcode fn.ntmps hbnd F n ρ _ w _ hF st0 fun e ρ1 a1 w1 he haft1 st1 => ?_
  -- how it is left
  have leave : LeavesInM F n P fn a1.tmps (Ends P ρ h w v h3) a1.defers .returning w1 := by
    have fin : ∀ w2, Aft P ρ1 h1 w1 h2 ρ1 w2 → LeavesInM F n P fn a1.tmps (Ends P ρ h w v h3) [] .returning w2 := fun w2 a2 => by
      obtain ⟨y, e1, e2⟩ := hres ρ1 w2 a1.tmps a2.hr st1.tr
      obtain ⟨ρ2, a3, hv3⟩ := hback ρ w ρ1 w2 y hr (haft1.trans a2) e2
      exact ⟨y, e1, y, ρ2, rfl, a3, hv3⟩
    rcases st1.df with ⟨_, hd⟩ | ⟨_, hd1, hd2⟩
    · rw [hd]; exact fin w1 (hkill ρ1 w1 st1.hr)
    · exact hleave F n ρ1 w1 a1.defers a1.tmps _ st1.hr (DF.marks hd1 hd2) fin
  rcases hx with rfl | rfl <;> cases he <;> exact leave

/-! ### ranges over functions -/
theorem CallOk.form (hN : NoNum P) {f : Nat} {fn : Func} {c : Code} (hf : P.funcs[f]? = some fn) (hb : fn.body = some c) {args : List V} {h h' : H} {v : V} (hc : CallOk P f args h v h') :
    ∀ (F : Fence) (n : Nat) (ρ : Ren) (w : World) (xs : Array Value), FW F → F.round = none → HR P ρ h w → VRL ρ args xs.toList → CallsIn F n P f xs w (Ends P ρ h w v h') := by
  rcases hc with hc | hc
  · exact hc.2
  · intro F n ρ w xs hF hro hr hv
    obtain ⟨x, w', ρ', h1, _⟩ := hc ρ w xs hr hv
    rw [callFunc_body hN hf hb] at h1; cases h1
theorem cRange_ok {sf : Self} (hs : SelfOk P 0 sf) (hc : CodesOk P sf) (hN : NoNum P) {g : Operand} {ps : Array Tmp} {asg body : Code} {tm : T V} {h : H} {m : List Nat} {k : KX} (hok : h.ok) (hk : cRange P g ps asg body sf tm h m k = true) :
    ∃ x tm' h' m', k x tm' h' m' = true ∧ h'.ok ∧ Ext h h' ∧ ∀ N, codeBnd N P.globals.size (.rangeFunc g ps asg body) = true → CodeOk P N (.rangeFunc g ps asg body) tm h m x tm' h' m' := by
  obtain ⟨hout, hk⟩ := bg_true.1 (show bg (outer m h) _ = true from hk)
  obtain ⟨gv, hgv, hk⟩ := opdK_true.1 hk
  obtain ⟨gf, a0, capt, rfl, hk1⟩ := vFn_true.1 hk
  have hpos : 0 < h.next ∧ m ≠ [0] := by
    cases m with
    | nil => exact ⟨by have : Nat.blt 0 h.next = true := hout; rw [nblt] at this; simpa using this, by simp⟩
    | cons d m =>
      have h1 : bsel (Nat.blt 0 d) (Nat.blt 0 h.next) false = true := hout
      rw [bsel_eq, nblt, nblt] at h1
      by_cases hd : 0 < d
      · simp [hd] at h1; exact ⟨h1, fun e => by cases e; omega⟩
      · simp [hd] at h1
  obtain ⟨hpos, hm0⟩ := hpos
  cases gf with
  | func f =>
    cases a0 with
    | cons x l => cases hk1
    | nil =>
      obtain ⟨fn, hf, hk2⟩ := og_true.1 (show og (P.funcs[f]?) (fun fn => og fn.body fun _ => callRange P sf f capt ps.toList asg body tm h m k) = true from hk1)
      obtain ⟨cb, hb, hk3⟩ := og_true.1 hk2
      unfold callRange at hk3
      rw [H.newK_eq, H.newK_eq] at hk3
      let h1 := h.new .defs
      let h2 := h1.new (.loop .ready none tm P.globals.size ps.toList asg body h.next)
      have hok2 : h2.ok := (hok.new _).new _
      obtain ⟨v, h3, hk4, hok3, hext3, hcall⟩ := hs.call f _ h2 _ hok2 hk3
      have hext2 : Ext h h2 := (Ext.new _ _).trans (Ext.new _ _)
      -- behind the call
      obtain ⟨lst, pend, tm', n', ps', asg', body', d', hg3, hk5⟩ := loopK_true.1 (show loopK h3 h1.next _ = true from hk4)
      obtain ⟨hst, hk6⟩ := ifOpen_true hk5
      rw [H.putK_eq] at hk6
      let h4 := h3.put h1.next (some (.loop .exhausted pend tm' n' ps' asg' body' d'))
      have hok4 : h4.ok := hok3.put (hok3 _ _ hg3)
      have hext4 : Ext h h4 := (hext2.trans hext3).trans (Ext.put _ _ _)
      have jump : ∃ x tm5 h5 m5, k x tm5 h5 m5 = true ∧ h5.ok ∧ Ext h4 h5 ∧ ∀ N F n ρ a w Q, FW F → St P N F ρ tm h4 (h.next :: m) a w → (∀ e ρ' a' w', X.is x e → Aft P ρ h4 w h5 ρ' w' → St P N F ρ' tm5 h5 m5 a' w' → Q e a' w') →
          (match pend with | none => Q .normal a w | some c => c.wpIn F n P Q a w) := by
        cases pend with
        | none => exact ⟨.normal, tm, h4, h.next :: m, hk6, hok4, Ext.refl _, fun N F n ρ a w Q hF st hq => hq _ ρ a w .normal (Aft.refl st.hr) st⟩
        | some c =>
          obtain ⟨hj, hk7⟩ := bg_true.1 hk6
          obtain ⟨x, tm5, h5, m5, e1, e2, e3, e4⟩ := hc c tm h4 (h.next :: m) k hok4 hk7
          exact ⟨x, tm5, h5, m5, e1, e2, e3, fun N F n ρ a w Q hF st hq => e4 N (isJump_bnd hj _ _) F n ρ a w Q hF st hq⟩
      obtain ⟨x, tm5, h5, m5, e1, e2, e3, e4⟩ := jump
      refine ⟨x, tm5, h5, m5, e1, e2, hext4.trans e3, fun N hN' F n ρ a w Q hF st hq => ?_⟩
      have hro : F.round = none := st.round.resolve_left hm0
      have hbnd : (match (generalizing := false) g with | .global _ => false | _ => true) = true ∧ (ps.toList.all fun p => Nat.blt p N) = true ∧ codeBnd N P.globals.size asg = true ∧ codeBnd N P.globals.size body = true := by
        have h1 : ((match (generalizing := false) g with | .global _ => false | _ => true) && ((ps.toList.all fun p => Nat.blt p N) && (codeBnd N P.globals.size asg && codeBnd N P.globals.size body))) = true := hN'
        simpa only [Bool.and_eq_true] using h1
      obtain ⟨hgg, hps, hasg, hbody⟩ := hbnd
      refine wpIn_rangeFunc fun fnid _ => ?_
      have hgval := (opsR_of st.hr st.tr (l := [g]) (fun y hy i e => by simp at hy; subst hy; subst e; cases hgg)) g (by simp) _ hgv
      obtain ⟨f', a', c', hga, hfr, ha', hc'⟩ := hgval.fn_inv
      simp only [FR] at hfr; subst hfr
      have ha0 : a' = #[] := Array.toList_eq_nil_iff.1 ha'.nil_inv
      subst ha0
      -- the two new blocks
      have hn0 := st.hr.none_next
      let w1 := w.app (.deferred (some []))
      let ρ1 := ρ.add h.next (w.heap.size, 0, (0, 0))
      have old1 : ∀ y, ρ y ≠ none → h1.get y = h.get y := fun y hy => by rw [H.get_new, if_neg (fun e => hy (by rw [e]; exact hn0))]
      have a1 : Aft P ρ h w h1 ρ1 w1 := ⟨Mv.alloc hn0 (Nat.le_succ _) old1, Nw.add (Nat.le_refl _), st.hr.alloc (o := .defs) hn0 (Nat.lt_succ_self _) (Nat.le_succ _) (by rw [H.get_new, if_pos rfl]) old1 rfl⟩
      let r : Loop := { state := .ready, pending := none, fn := fnid, tmps := a.tmps, params := ps, assign := asg, body := body, defers := w.heap.size }
      have hn1 := a1.hr.none_next
      let w2 := w1.app (.loop r)
      let ρ2 := ρ1.add h1.next (w1.heap.size, 0, (0, 0))
      have old2 : ∀ y, ρ1 y ≠ none → h2.get y = h1.get y := fun y hy => by rw [H.get_new, if_neg (fun e => hy (by rw [e]; exact hn1))]
      have le2 : ρ1.le ρ2 := Ren.add_le _ hn1
      have hd2 : ρ2 h.next = some (w.heap.size, 0, (0, 0)) := le2 _ _ Ren.add_same
      have a2 : Aft P ρ1 h1 w1 h2 ρ2 w2 := ⟨Mv.alloc hn1 (Nat.le_succ _) old2, Nw.add (Nat.le_refl _), a1.hr.alloc (o := .loop .ready none tm P.globals.size ps.toList asg body h.next) hn1 (Nat.lt_succ_self _) (Nat.le_succ _) (by rw [H.get_new, if_pos rfl]) old2
        ⟨r, rfl, rfl, rfl, rfl, rfl, rfl, st.tr.mono (a1.mv.le.trans le2), ⟨_, _, _, hd2, rfl⟩, by rw [show r.tmps.size = N from st.size]; exact hasg, by rw [show r.tmps.size = N from st.size]; exact hbody, fun p hp => by
          have := List.all_eq_true.1 hps p hp; rw [nblt] at this; rw [show r.tmps.size = N from st.size]; simpa using this⟩⟩
      have a12 := a1.trans a2
      have hl2 : ρ2 h1.next = some (w1.heap.size, 0, (0, 0)) := Ren.add_same
      refine ⟨w1.heap.size, [{ target := .collected w.heap.size, args := #[] }], w2, { target := .fn (.func f) c', args := #[] ++ #[.func (.yield w1.heap.size) #[] #[]] }, w2, f, (#[] ++ #[.func (.yield w1.heap.size) #[] #[]]) ++ c', w2, ?_, ?_, fun f' _ => hF.fn f', ?_, hF.deep, ?_⟩
      · rw [hro]; rfl
      · have e0 : ∀ X : Value, Array.map a.eval #[.const X] = #[X] := fun X => by simp [Act.eval]
        simp only [resolve, hga, Deferred.ofValue, Sem.run_pure, e0]
      · exact callFunc_body hN hf hb _ w2
      · have hvr : VRL ρ2 (.fn (.yield h1.next) [] [] :: capt) ((#[] ++ #[Value.func (.yield w1.heap.size) #[] #[]]) ++ c').toList := by
          have e : ((#[] ++ #[Value.func (.yield w1.heap.size) #[] #[]]) ++ c').toList = .func (.yield w1.heap.size) #[] #[] :: c'.toList := by simp
          rw [e]
          refine VRL.cons ?_ (hc'.mono a12.mv.le _ _)
          simp only [VR]; exact ⟨_, #[], #[], rfl, ⟨_, _, _, hl2, rfl⟩, VRL.nil, VRL.nil⟩
        refine CallsIn.mono (hcall.form hN hf hb F (n - 1) ρ2 w2 _ hF hro a2.hr hvr) fun e w3 he => ?_
        obtain ⟨xv, ρ3, rfl, a3, _⟩ := he
        have hl3 := a3.mv.le _ _ hl2
        obtain ⟨r3, hh3, r1, r2, r3'⟩ := loop_at a3.hr hl3 hg3
        obtain ⟨p1, p2⟩ := loop_put (st' := .exhausted) (pend' := pend) a3.hr hl3 hg3 hh3
        refine ⟨pend, w3.putB w1.heap.size (.loop { r3 with state := .exhausted, pending := pend }), ?_, ?_⟩
        · simp only [Instr.endLoop, Sem.run_bind, getLoop_run hh3, Result.andThen_ok, r1]
          have hnb : (lst == LoopState.busy) = false := by cases lst <;> first | rfl | exact absurd rfl hst
          simp only [hnb, Bool.false_eq_true, if_false, Sem.run_bind, Sem.run_pure, Result.andThen_ok]
          have er : ({ r3 with state := .exhausted, pending := pend } : Loop) = { r3 with state := .exhausted } := by rw [← r2]
          rw [er] at p1
          rw [p1, r2]; rfl
        · have aall := (a12.trans a3).trans p2
          have hd4 := aall.mv.le
          have stE : St P N F ρ3 tm h4 (h.next :: m) { a with defers := [{ target := .collected w.heap.size, args := #[] }] ++ a.defers } (w3.putB w1.heap.size (.loop { r3 with state := .exhausted, pending := pend })) := by
            refine ⟨p2.hr, st.tr.mono aall.mv.le, .inr ?_, st.size, .inr hro⟩
            rcases st.df with ⟨hh, _⟩ | ⟨d1, d2, d3⟩
            · exact absurd hh hm0
            · refine ⟨by simp only [List.mem_cons, not_or]; exact ⟨by omega, d1⟩, by simp [d2], fun i d hd => ?_⟩
              cases i with
              | zero => simp at hd; subst hd; exact ⟨_, _, _, _, a3.mv.le _ _ hd2, rfl, rfl⟩
              | succ i =>
                obtain ⟨c, s, wl, y, f1, f2, f3⟩ := d3 i d (by simpa using hd)
                exact ⟨c, s, wl, y, aall.mv.le _ _ f1, by simpa using f2, f3⟩
          have := e4 N F n ρ3 _ _ Q hF stE fun e ρ' a' w' he haft st' => hq e ρ' a' w' he (aall.trans haft) st'
          exact this
  | _ => cases hk1
end Go.Ev
/-
  ENGINE, PART 32: regions that draw their order: the way of the evaluator.
-/
namespace Go.Ev
variable {P : Program}

/-- what an operation needs of the slots -/
structure Needs (ρ : Ren) (ops : Array Oper) (o : Oper) (tm : T V) (a : Act) : Prop where
  opds : OpsR ρ tm a.eval o.op.operands.toList
  guard : ∀ (j : Nat) (want : Bool) (oj : Oper) (d : Nat), o.guard = some (j, want) → ops[j]? = some oj → oj.dst = some d → ∀ v, tm.get d = some v → ∃ x, a.tmps[d]? = some x ∧ VR ρ v x
/-- an operation that acts, at its turn -/
def Prt (P : Program) (ops : Array Oper) (i : Nat) (o : Oper) (tm : T V) (h : H) (v : V) (h' : H) : Prop :=
  ∀ (F : Fence) (n : Nat) (ρ : Ren) (a : Act) (w : World) (nxt : Act → World → Prop) (Q : Exit → Act → World → Prop), FW F → Needs ρ ops o tm a → HR P ρ h w →
    (∀ ρ' x w', Aft P ρ h w h' ρ' w' → VR ρ' v x → nxt (a.put o.dst x) w') → wpOpIn F n P ops Q i nxt a w
/-- an operation that may still be done -/
def Pnd (P : Program) (ops : Array Oper) (i : Nat) (o : Oper) (tm : T V) (v : V) (nb : Option Nat) (h : H) : Prop := (∀ b, nb = some b → b < h.next) ∧
  ∀ hs, Ag h hs → ∀ (F : Fence) (n : Nat) (ρ : Ren) (a : Act) (w : World) (nxt : Act → World → Prop) (Q : Exit → Act → World → Prop), FW F → Needs ρ ops o tm a → HR P ρ hs w → (∀ b, nb = some b → ρ b = none) →
    (∀ ρ' x w', Mv ρ hs w ρ' hs w' → HR P ρ' hs w' → VR ρ' v x → (Nw ρ ρ' fun b => nb = some b) → nxt (a.put o.dst x) w') → wpOpIn F n P ops Q i nxt a w
theorem Pnd.ag {ops : Array Oper} {i : Nat} {o : Oper} {tm : T V} {v : V} {nb : Option Nat} {h h' : H} (g : Pnd P ops i o tm v nb h) (a : Ag h h') : Pnd P ops i o tm v nb h' :=
  ⟨fun b hb => Nat.lt_of_lt_of_le (g.1 b hb) a.next, fun hs ha => g.2 hs (a.trans ha)⟩
theorem wpOp_wanted {F : Fence} {n : Nat} {ops : Array Oper} {Q : Exit → Act → World → Prop} {i : Nat} {o : Oper} {K : Act → World → Prop} {a : Act} {w : World} (hF : FW F) (hi : ops[i]? = some o) {b : Bool} (hw : Region.wanted o (yielded ops a.tmps) = b)
    (h : if b then o.wpIn F n P a w K Q else K (a.put o.dst undef) w) : wpOpIn F n P ops Q i K a w := by
  unfold wpOpIn
  rw [hi]
  simp only [hw]
  cases b with
  | true => exact h
  | false => exact ⟨fun f _ => hF.fn f, h⟩
theorem act_prt {self : Self} (hs : SelfOk P 0 self) {ops : Array Oper} {i : Nat} {o : Oper} (hi : ops[i]? = some o) {tm : T V} {h : H} {k : T V → H → (H → Bool) → Bool} (hok : h.ok) (hk : oneOp P self ops.toList o tm h k = true) :
    ∃ v h' c, k (tmDst o.dst v tm) h' c = true ∧ h'.ok ∧ Ext h h' ∧ Prt P ops i o tm h v h' := by
  obtain ⟨b, hb, hw⟩ := wantK_true (ops := ops) rfl hk
  cases b with
  | true =>
    obtain ⟨v, h', c, g1, g2, g3, g4⟩ := op_ok hs hok (show opS P self o.op tm h (fun v h' c => dstK o.dst v tm fun tm' => k tm' h' c) = true from hb)
    rw [dstK_eq] at g1
    exact ⟨v, h', c, g1, g2, g3, fun F n ρ a w nxt Q hF hn hr hq => wpOp_wanted hF hi (hw ρ a.tmps hn.guard) (g4 F n ρ a w nxt Q hF hn.opds hr hq)⟩
  | false =>
    have hb' : (dstK o.dst (.tuple []) tm fun tm' => k tm' h yes) = true := hb
    rw [dstK_eq] at hb'
    exact ⟨.tuple [], h, yes, hb', hok, Ext.refl _, fun F n ρ a w nxt Q hF hn hr hq => wpOp_wanted hF hi (hw ρ a.tmps hn.guard) (hq ρ _ w (Aft.refl hr) VR.undef)⟩
theorem pas_pnd {self : Self} {ops : Array Oper} {i : Nat} {o : Oper} (hi : ops[i]? = some o) {tm : T V} {h : H} {k : T V → H → (H → Bool) → Bool} (hact : isAct o.op = false) (hok : h.ok) (hk : oneOp P self ops.toList o tm h k = true) :
    ∃ v h1 c nb, k (tmDst o.dst v tm) h1 c = true ∧ h1.ok ∧ Ag h h1 ∧ Ext h h1 ∧ (∀ b, nb = some b → h.next ≤ b) ∧ Pnd P ops i o tm v nb h1 ∧ (∀ h2 : H, h2.ok → c h2 = true → Pnd P ops i o tm v nb h2) ∧ (isRd o.op = false → ∀ h2, Pnd P ops i o tm v nb h2) := by
  obtain ⟨b, hb, hw⟩ := wantK_true (ops := ops) rfl hk
  cases b with
  | true =>
    have hb' : opS P self o.op tm h (fun v h' c => dstK o.dst v tm fun tm' => k tm' h' c) = true := hb
    obtain ⟨v, h1, c, nb, g1, g2, g3, g4, g5, g6, g7, g8⟩ := passive_ok hact hok hb'
    replace g1 : (dstK o.dst v tm fun tm' => k tm' h1 c) = true := g1
    rw [dstK_eq] at g1
    have key : ∀ h2, Good P o tm v nb h2 → Pnd P ops i o tm v nb h2 := fun h2 g => ⟨g.1, fun hs ha F n ρ a w nxt Q hF hn hr hnb hq => wpOp_wanted hF hi (hw ρ a.tmps hn.guard) (by
      obtain ⟨x, w', ρ', e1, e2, e3, e4, e5⟩ := g.2 hs ha ρ a.eval w hn.opds hr hnb
      refine wpIn_run hF (opS_nodefer hb') ?_
      rw [e1]; exact hq ρ' x w' e2 e3 e4 e5)⟩
    exact ⟨v, h1, c, nb, g1, g3, g2, g4, g6, key h1 g5, fun h2 hk2 hc => key h2 (g7 h2 hk2 hc), fun hr h2 => key h2 (g8 hr h2)⟩
  | false =>
    have hb' : (dstK o.dst (.tuple []) tm fun tm' => k tm' h yes) = true := hb
    rw [dstK_eq] at hb'
    have key : ∀ h2, Pnd P ops i o tm (.tuple []) none h2 := fun h2 => ⟨fun b hb => (by cases hb), fun hs ha F n ρ a w nxt Q hF hn hr hnb hq => wpOp_wanted hF hi (hw ρ a.tmps hn.guard) (hq ρ _ w (Mv.refl _ _ _) hr VR.undef (Nw.refl _ _))⟩
    exact ⟨.tuple [], h, yes, none, hb', hok, Ag.refl _, Ext.refl _, fun b hb => (by cases hb), key h, fun h2 _ _ => key h2, fun _ h2 => key h2⟩
/-- the evaluator's way through a region -/
inductive Tr (P : Program) (ops : Array Oper) : List It → T V → H → List (Nat × (H → Bool)) → T V → H → List (Nat × (H → Bool)) → Prop
  | nil {tm : T V} {h : H} {fl : List (Nat × (H → Bool))} : Tr P ops [] tm h fl tm h fl
  | pas {it : It} {l : List It} {o : Oper} {tm tm' : T V} {h h1 h' : H} {fl fl1 fl' : List (Nat × (H → Bool))} {v : V} {nb : Option Nat} {c : H → Bool} (hi : ops[it.i]? = some o) (ha : isAct o.op = false) (hok : h1.ok) (hag : Ag h h1) (hnb : ∀ b, nb = some b → h.next ≤ b)
      (hp : Pnd P ops it.i o tm v nb h1) (hc : ∀ h2 : H, h2.ok → c h2 = true → Pnd P ops it.i o tm v nb h2) (hf : (isRd o.op = true ∧ fl1 = (it.i, c) :: fl) ∨ ((∀ h2, Pnd P ops it.i o tm v nb h2) ∧ fl1 = fl)) (ht : Tr P ops l (tmDst o.dst v tm) h1 fl1 tm' h' fl') : Tr P ops (it :: l) tm h fl tm' h' fl'
  | act {it : It} {l : List It} {o : Oper} {tm tm' : T V} {h h1 h' : H} {fl fl1 fl' : List (Nat × (H → Bool))} {v : V} (hi : ops[it.i]? = some o) (ha : isAct o.op = true) (hok : h1.ok) (hp : Prt P ops it.i o tm h v h1)
      (hf : ∀ f ∈ fl, Nat.testBit it.clo f.1 = true ∨ (f ∈ fl1 ∧ f.2 h1 = true)) (ht : Tr P ops l (tmDst o.dst v tm) h1 fl1 tm' h' fl') : Tr P ops (it :: l) tm h fl tm' h' fl'
theorem fltK_true {m : Nat} : ∀ {fl : List (Nat × (H → Bool))} {h : H} {k : List (Nat × (H → Bool)) → Bool}, fltK m fl h k = true → ∃ fl', k fl' = true ∧ ∀ f ∈ fl, Nat.testBit m f.1 = true ∨ (f ∈ fl' ∧ f.2 h = true)
  | [], h, k, hk => ⟨[], hk, by simp⟩
  | f :: fl, h, k, hk => by
    have hk' : bsel (Nat.testBit m f.1) (fltK m fl h k) (bg (f.2 h) (fltK m fl h fun l => k (f :: l))) = true := hk
    rw [bsel_eq] at hk'
    split at hk'
    · rename_i hb
      obtain ⟨fl', h1, h2⟩ := fltK_true hk'
      refine ⟨fl', h1, fun g hg => ?_⟩
      rcases List.mem_cons.1 hg with rfl | hg
      · exact .inl hb
      · exact h2 g hg
    · obtain ⟨h1, h2⟩ := bg_true.1 hk'
      obtain ⟨fl', h3, h4⟩ := fltK_true h2
      refine ⟨f :: fl', h3, fun g hg => ?_⟩
      rcases List.mem_cons.1 hg with rfl | hg
      · exact .inr ⟨by simp, h1⟩
      · rcases h4 g hg with h | ⟨h, h'⟩
        · exact .inl h
        · exact .inr ⟨List.mem_cons_of_mem _ h, h'⟩
theorem drawK_true {self : Self} (hs : SelfOk P 0 self) {ops : Array Oper} : ∀ {l : List It} {tm : T V} {h : H} {fl : List (Nat × (H → Bool))} {k : T V → H → List (Nat × (H → Bool)) → Bool}, h.ok → drawK P self ops.toList l tm h fl k = true →
    ∃ tm' h' fl', k tm' h' fl' = true ∧ h'.ok ∧ Ext h h' ∧ Tr P ops l tm h fl tm' h' fl'
  | [], tm, h, fl, k, hok, hk => ⟨tm, h, fl, hk, hok, Ext.refl _, .nil⟩
  | it :: l, tm, h, fl, k, hok, hk => by
    obtain ⟨o, ho, hk⟩ := og_true.1 (show og (nth ops.toList it.i) (fun o => oneOp P self ops.toList o tm h fun tm' h' c => bsel (isAct o.op) (fltK it.clo fl h' fun fl' => drawK P self ops.toList l tm' h' fl' k) (bsel (isRd o.op) (drawK P self ops.toList l tm' h' ((it.i, c) :: fl) k) (drawK P self ops.toList l tm' h' fl k))) = true from hk)
    rw [nth_eq] at ho
    have hi : ops[it.i]? = some o := by simpa using ho
    cases ha : isAct o.op with
    | true =>
      obtain ⟨v, h1, c, g1, g2, g3, g4⟩ := act_prt hs hi hok hk
      rw [ha, bselT] at g1
      obtain ⟨fl1, g5, g6⟩ := fltK_true g1
      obtain ⟨tm', h', fl', e1, e2, e3, e4⟩ := drawK_true hs g2 g5
      exact ⟨tm', h', fl', e1, e2, g3.trans e3, .act hi ha g2 g4 g6 e4⟩
    | false =>
      obtain ⟨v, h1, c, nb, g1, g2, g3, g4, g5, g6, g7, g8⟩ := pas_pnd hi ha hok hk
      rw [ha, bselF, bsel_eq] at g1
      cases hr : isRd o.op with
      | true =>
        rw [hr] at g1
        obtain ⟨tm', h', fl', e1, e2, e3, e4⟩ := drawK_true hs g2 g1
        exact ⟨tm', h', fl', e1, e2, g4.trans e3, .pas hi ha g2 g3 g5 g6 g7 (.inl ⟨hr, rfl⟩) e4⟩
      | false =>
        rw [hr] at g1
        obtain ⟨tm', h', fl', e1, e2, e3, e4⟩ := drawK_true hs g2 g1
        exact ⟨tm', h', fl', e1, e2, g4.trans e3, .pas hi ha g2 g3 g5 g6 g7 (.inr ⟨g8 hr, rfl⟩) e4⟩
end Go.Ev
/-
  ENGINE, PART 33: regions that draw their order: every order leads to the same state.
-/
namespace Go.Ev
variable {P : Program}

/-! ### slots, as far as the operations have been listed -/
abbrev Hist := List (Nat × Oper × V)
noncomputable def puts (L : Nat → Bool) : Hist → T V → T V
  | [], tm => tm
  | (i, o, v) :: l, tm => puts L l (if L i then tmDst o.dst v tm else tm)
theorem puts_append (L : Nat → Bool) : ∀ (a b : Hist) (tm : T V), puts L (a ++ b) tm = puts L b (puts L a tm)
  | [], b, tm => rfl
  | (i, o, v) :: a, b, tm => by simp only [List.cons_append, puts]; exact puts_append L a b _
theorem get_tmDst {d : Option Nat} {v : V} {tm : T V} {t : Nat} : (tmDst d v tm).get t = if d = some t then some v else tm.get t := by
  cases d with
  | none => simp [tmDst]
  | some i =>
    simp only [tmDst, T.get_put, Option.some.injEq]
    by_cases h : t = i
    · subst h; simp
    · rw [if_neg h, if_neg (fun e => h e.symm)]
/-- the slot depends on its writers alone -/
theorem puts_same {L L' : Nat → Bool} {t : Nat} : ∀ (l : Hist) (tm tm' : T V), tm.get t = tm'.get t → (∀ p ∈ l, p.2.1.dst = some t → L p.1 = L' p.1) → (puts L l tm).get t = (puts L' l tm').get t
  | [], tm, tm', h, _ => h
  | (i, o, v) :: l, tm, tm', h, hl => by
    simp only [puts]
    refine puts_same l _ _ ?_ (fun p hp => hl p (by simp [hp]))
    by_cases hd : o.dst = some t
    · have := hl (i, o, v) (by simp) hd
      simp only at this
      rw [this]
      cases L' i <;> simp [get_tmDst, hd, h]
    · cases L i <;> cases L' i <;> simp [get_tmDst, hd, h]
/-- nobody writes it -/
theorem puts_none {L : Nat → Bool} {t : Nat} : ∀ (l : Hist) (tm : T V), (∀ p ∈ l, p.2.1.dst = some t → L p.1 = false) → (puts L l tm).get t = tm.get t
  | [], tm, _ => rfl
  | (i, o, v) :: l, tm, hl => by
    simp only [puts]
    rw [puts_none l _ (fun p hp => hl p (by simp [hp]))]
    by_cases hd : o.dst = some t
    · have := hl (i, o, v) (by simp) hd
      simp only at this
      rw [this]; rfl
    · cases L i <;> simp [get_tmDst, hd]
/-- what is asked of the order, of two of its operations -/
structure Pair (cl : Nat → Nat) (all : List Oper) (L : Nat → Bool) (pre post : Hist) (i : Nat) (o : Oper) : Prop where
  /-- before it: a writer of a slot that it names is listed -/
  pre : ∀ p ∈ pre, ∀ d, p.2.1.dst = some d → names all o d = true → L p.1 = true
  /-- behind it: none is -/
  post : ∀ p ∈ post, ∀ d, p.2.1.dst = some d → names all o d = true → L p.1 = false
theorem Pair.reads {cl : Nat → Nat} {all : List Oper} {L : Nat → Bool} {pre post : Hist} {i : Nat} {o : Oper} {v : V} (hp : Pair cl all L pre post i o) (hi : L i = false) {d : Nat} (hd : names all o d = true) (tm0 : T V) :
    (puts L (pre ++ (i, o, v) :: post) tm0).get d = (puts (fun _ => true) pre tm0).get d := by
  rw [puts_append]
  simp only [puts, hi, Bool.false_eq_true, if_false]
  rw [puts_none post _ (fun p h e => hp.post p h d e hd)]
  exact puts_same pre _ _ rfl fun p h e => by rw [hp.pre p h d e hd]
theorem Pair.writes {cl : Nat → Nat} {all : List Oper} {L L' : Nat → Bool} {pre post : Hist} {i : Nat} {o : Oper} {v : V} (hp : Pair cl all L pre post i o) (hi : L i = false) (hi' : L' i = true) (hL : ∀ p ∈ pre ++ post, L' p.1 = L p.1) (tm0 : T V) (t : Nat) :
    (puts L' (pre ++ (i, o, v) :: post) tm0).get t = (tmDst o.dst v (puts L (pre ++ (i, o, v) :: post) tm0)).get t := by
  rw [get_tmDst, puts_append, puts_append]
  simp only [puts, hi, hi', Bool.false_eq_true, if_false, if_true]
  by_cases hd : o.dst = some t
  · rw [if_pos hd]
    have hn : names all o t = true := by simp [names, hd]
    rw [puts_none post _ (fun p h e => by rw [hL p (by simp [h])]; exact hp.post p h t e hn)]
    simp [get_tmDst, hd]
  · rw [if_neg hd]
    refine puts_same post _ _ ?_ (fun p h _ => hL p (by simp [h]))
    rw [get_tmDst, if_neg hd]
    exact puts_same pre _ _ rfl fun p h _ => hL p (by simp [h])

/-! ### who comes surely before -/
theorem clos_listed {all : List Oper} {cl : List Nat} (hc : closOk all cl = true) {L : Nat → Bool} (hdc : ∀ i o, all[i]? = some o → L i = true → ∀ e ∈ o.after.toList, Region.binds .any e = true → L e.on = true) :
    ∀ (i : Nat) (o : Oper), all[i]? = some o → (∀ e ∈ o.after.toList, Region.binds .any e = true → L e.on = true) → ∀ j, j < all.length → Nat.testBit (cl.getD i 0) j = true → L j = true := by
  intro i
  induction i using Nat.strongRecOn with
  | _ i ih =>
    intro o ho hr j hj hb
    have h1 := List.all_eq_true.1 hc (o, i) (by rw [List.mem_zipIdx_iff_getElem?]; exact ho)
    have h2 := List.all_eq_true.1 h1 j (List.mem_range.2 hj)
    rw [hb] at h2
    simp only [Bool.not_true, Bool.false_or] at h2
    obtain ⟨e, he, h3⟩ := List.any_eq_true.1 h2
    simp only [Bool.and_eq_true, Bool.or_eq_true] at h3
    obtain ⟨h4, h5, h6⟩ := h3
    rw [nblt, decide_eq_true_iff] at h5
    have hL := hr e he h4
    rcases h6 with h6 | h6
    · rw [nbeq, decide_eq_true_iff] at h6; subst h6; exact hL
    · have hlt : i < all.length := (List.getElem?_eq_some_iff.1 ho).1
      have ho' : all[e.on]? = some all[e.on] := List.getElem?_eq_getElem (by omega)
      exact ih e.on h5 all[e.on] ho' (hdc e.on _ ho' hL) j hj h6
end Go.Ev
/-
  ENGINE, PART 35: regions that draw their order: the history.
-/
namespace Go.Ev
variable {P : Program}

theorem readOk_use {all : List Oper} {cl : List Nat} {m i : Nat} {o : Oper} (h : readOk all cl m i o = true) {j : Nat} {q : Oper} (hj : all[j]? = some q) (hne : j ≠ i) {d : Nat} (hd : q.dst = some d) (hn : names all o d = true) : Nat.testBit m j = true ∨ Nat.testBit (cl.getD j 0) i = true := by
  unfold readOk at h
  rw [Bool.and_eq_true] at h
  have h1 := List.all_eq_true.1 h.2 (q, j) (by rw [List.mem_zipIdx_iff_getElem?]; exact hj)
  simp only [hd, hn, Bool.not_true, Bool.false_or] at h1
  rw [nbeq] at h1
  simpa [hne] using h1
theorem readOk_guard {all : List Oper} {cl : List Nat} {m i : Nat} {o : Oper} (h : readOk all cl m i o = true) {j : Nat} {want : Bool} (hg : o.guard = some (j, want)) : Nat.testBit m j = true := by
  unfold readOk at h
  rw [Bool.and_eq_true, hg] at h
  exact h.1
/-- the history keeps the order -/
def HistOk (all : List Oper) (cl : List Nat) (hist : Hist) : Prop := ∀ (pre : Hist) (i : Nat) (o : Oper) (v : V) (post : Hist), hist = pre ++ (i, o, v) :: post →
  all[i]? = some o ∧ (∀ j, j < all.length → Nat.testBit (cl.getD i 0) j = true → ∃ p ∈ pre, p.1 = j) ∧ readOk all cl (cl.getD i 0) i o = true ∧ ∀ p ∈ pre, p.1 ≠ i
theorem HistOk.nil {all : List Oper} {cl : List Nat} : HistOk all cl [] := fun pre i o v post h => by cases pre <;> cases h
theorem snoc_split {α : Type} {a pre post : List α} {x y : α} (h : a ++ [x] = pre ++ y :: post) : (post = [] ∧ pre = a ∧ y = x) ∨ ∃ post', post = post' ++ [x] ∧ a = pre ++ y :: post' := by
  rcases List.eq_nil_or_concat post with rfl | ⟨post', z, rfl⟩
  · left
    have := List.append_inj' h rfl
    simp at this
    exact ⟨rfl, this.1.symm, this.2.symm⟩
  · right
    have e : pre ++ y :: (post'.concat z) = (pre ++ y :: post') ++ [z] := by simp
    rw [e] at h
    have := List.append_inj' h rfl
    simp at this
    exact ⟨post', by rw [this.2]; simp, by rw [this.1]⟩
theorem HistOk.snoc {all : List Oper} {cl : List Nat} {hist : Hist} (h : HistOk all cl hist) {i : Nat} {o : Oper} {v : V} (h1 : all[i]? = some o) (h2 : ∀ j, j < all.length → Nat.testBit (cl.getD i 0) j = true → ∃ p ∈ hist, p.1 = j) (h3 : readOk all cl (cl.getD i 0) i o = true)
    (h5 : ∀ p ∈ hist, p.1 ≠ i) : HistOk all cl (hist ++ [(i, o, v)]) := by
  intro pre i' o' v' post he
  rcases snoc_split he with ⟨rfl, rfl, e⟩ | ⟨post', rfl, e⟩
  · cases e; exact ⟨h1, h2, h3, h5⟩
  · exact h pre i' o' v' post' e
theorem HistOk.of_mem {all : List Oper} {cl : List Nat} {hist : Hist} (h : HistOk all cl hist) {p : Nat × Oper × V} (hp : p ∈ hist) : all[p.1]? = some p.2.1 := by
  obtain ⟨pre, post, e⟩ := List.append_of_mem hp
  exact (h pre p.1 p.2.1 p.2.2 post e).1
theorem HistOk.pair {all : List Oper} {cl : List Nat} {pre post : Hist} {i : Nat} {o : Oper} {v : V} (h : HistOk all cl (pre ++ (i, o, v) :: post)) {L : Nat → Bool} (hcl : ∀ j k, L j = true → k < all.length → Nat.testBit (cl.getD j 0) k = true → L k = true)
    (hready : ∀ k, k < all.length → Nat.testBit (cl.getD i 0) k = true → L k = true) (hi : L i = false) : Pair (fun i => cl.getD i 0) all L pre post i o := by
  obtain ⟨h1, h2, h3, h5⟩ := h pre i o v post rfl
  have hlt : i < all.length := (List.getElem?_eq_some_iff.1 h1).1
  refine ⟨fun p hp d hd hn => ?_, fun p hp d hd hn => ?_⟩
  · obtain ⟨a, b, e⟩ := List.append_of_mem hp
    have hall : all[p.1]? = some p.2.1 := h.of_mem (by simp [hp])
    have hplt : p.1 < all.length := (List.getElem?_eq_some_iff.1 hall).1
    rcases readOk_use h3 hall (h5 p hp) hd hn with hb | hb
    · exact hready _ hplt hb
    · obtain ⟨g1, g2, _⟩ := h a p.1 p.2.1 p.2.2 (b ++ (i, o, v) :: post) (by rw [e]; simp)
      obtain ⟨p', hp', e'⟩ := g2 i hlt hb
      exact absurd e' (h5 p' (by rw [e]; simp [hp']))
  · obtain ⟨a, b, e⟩ := List.append_of_mem hp
    have hall : all[p.1]? = some p.2.1 := h.of_mem (by simp [hp])
    obtain ⟨g1, g2, g3, g5⟩ := h (pre ++ (i, o, v) :: a) p.1 p.2.1 p.2.2 b (by rw [e]; simp)
    have hne : p.1 ≠ i := fun e' => g5 (i, o, v) (by simp) e'.symm
    have hplt : p.1 < all.length := (List.getElem?_eq_some_iff.1 hall).1
    rcases readOk_use h3 hall hne hd hn with hb | hb
    · obtain ⟨p', hp', e'⟩ := h2 p.1 hplt hb
      exact absurd e' (g5 p' (by simp [hp']))
    · cases hL : L p.1 with
      | false => rfl
      | true => rw [hcl p.1 i hL hlt hb] at hi; cases hi
end Go.Ev
/-
  ENGINE, PART 36: regions that draw their order: the invariant.
-/
namespace Go.Ev
variable {P : Program} {N : Nat}

def lst (listed : Array Bool) (i : Nat) : Bool := listed.getD i false
/-- the state in the midst of a region -/
structure DInv (P : Program) (N : Nat) (F : Fence) (ops : Array Oper) (cl : List Nat) (hist : Hist) (nbOf : Nat → Option Nat) (tm0 : T V) (m : List Nat) (h : H) (fl : List (Nat × (H → Bool))) (listed : Array Bool) (ρ0 : Ren) (h0 : H) (w0 : World) (ρ : Ren) (a : Act) (w : World) : Prop where
  size : listed.size = ops.size
  hok : HistOk ops.toList cl hist
  sub : ∀ i, lst listed i = true → ∃ p ∈ hist, p.1 = i
  dc : ∀ i o, ops.toList[i]? = some o → lst listed i = true → ∀ e ∈ o.after.toList, Region.binds .any e = true → lst listed e.on = true
  pend : ∀ pre i o v post, hist = pre ++ (i, o, v) :: post → lst listed i = false → isAct o.op = false ∧ Pnd P ops i o (puts (fun _ => true) pre tm0) v (nbOf i) h ∧ (∀ b, nbOf i = some b → ρ b = none) ∧
    ((isRd o.op = true ∧ ∃ c, (i, c) ∈ fl ∧ ∀ h2 : H, h2.ok → c h2 = true → Pnd P ops i o (puts (fun _ => true) pre tm0) v (nbOf i) h2) ∨ ∀ h2, Pnd P ops i o (puts (fun _ => true) pre tm0) v (nbOf i) h2)
  nbs : ∀ i j b, nbOf i = some b → nbOf j = some b → i = j
  nbge : ∀ i b, nbOf i = some b → h0.next ≤ b
  nblt : ∀ i b, nbOf i = some b → b < h.next
  ok : h.ok
  aft : Aft P ρ0 h0 w0 h ρ w
  tr : TR ρ (puts (lst listed) hist tm0) a.tmps
  df : DF ρ m a.defers
  sizeN : a.tmps.size = N
  round : m = [0] ∨ F.round = none
theorem lst_set {listed : Array Bool} {i j : Nat} (hi : i < listed.size) : lst (listed.setIfInBounds i true) j = if j = i then true else lst listed j := by
  unfold lst
  simp only [Array.getD_eq_getD_getElem?]
  by_cases h : j = i
  · subst h; simp [hi]
  · rw [Array.getElem?_setIfInBounds_ne (fun e => h e.symm), if_neg h]
theorem ready_mem {ops : Array Oper} {listed : Array Bool} (hs : listed.size = ops.size) {i : Nat} : i ∈ Region.ready .any ops listed ↔ ∃ o, ops.toList[i]? = some o ∧ lst listed i = false ∧ ∀ e ∈ o.after.toList, Region.binds .any e = true → lst listed e.on = true := by
  unfold Region.ready lst
  simp only [List.mem_filter, List.mem_range, Bool.and_eq_true, Bool.not_eq_true']
  constructor
  · rintro ⟨h1, h2, h3⟩
    have ho : ops[i]? = some ops[i] := Array.getElem?_eq_getElem h1
    rw [ho] at h3
    simp only [Option.map_some, Option.getD_some] at h3
    refine ⟨ops[i], by simp, ?_, fun e he hb => ?_⟩
    · have : i < listed.size := by omega
      simp only [Array.getD_eq_getD_getElem?, Array.getElem?_eq_getElem this, Option.getD_some] at h2 ⊢
      exact h2
    · rw [← Array.all_toList] at h3
      have := List.all_eq_true.1 h3 e he
      rw [hb] at this
      simpa using this
  · rintro ⟨o, h1, h2, h3⟩
    have ho : ops[i]? = some o := by simpa using h1
    have hlt : i < ops.size := (Array.getElem?_eq_some_iff.1 ho).1
    have hlt' : i < listed.size := by omega
    refine ⟨hlt, ?_, ?_⟩
    · simp only [Array.getD_eq_getD_getElem?, Array.getElem?_eq_getElem hlt', Option.getD_some] at h2 ⊢
      exact h2
    · rw [ho]
      simp only [Option.map_some, Option.getD_some]
      rw [← Array.all_toList]
      refine List.all_eq_true.2 fun e he => ?_
      by_cases hb : Region.binds .any e = true
      · rw [hb]; simpa using h3 e he hb
      · have : Region.binds .any e = false := by simpa using hb
        rw [this]; rfl
theorem needs_of {ρ : Ren} {h : H} {ops : Array Oper} {o : Oper} {tm tm1 : T V} {a : Act} {w : World} (hr : HR P ρ h w) (ht : TR ρ tm1 a.tmps) (hsame : ∀ d, names ops.toList o d = true → tm1.get d = tm.get d) (hb : opBnd N P.globals.size o = true) : Needs ρ ops o tm a := by
  obtain ⟨_, hg⟩ := opBnd_true hb
  refine ⟨fun x hx v hv => ?_, fun j want oj d h1 h2 h3 v hv => ?_⟩
  · have hv1 : opdV tm1 x = some v := by
      cases x with
      | tmp i =>
        have hn : names ops.toList o i = true := by
          unfold names
          have : reads o i = true := List.any_eq_true.2 ⟨.tmp i, hx, by simp [nbeq]⟩
          simp [this]
        show tm1.get i = some v
        rw [hsame i hn]; exact hv
      | _ => exact hv
    exact opsR_of hr ht hg x hx v hv1
  · have hn : names ops.toList o d = true := by
      unfold names
      have h2' : ops.toList[j]? = some oj := by simpa using h2
      simp [h1, h2', h3, nbeq]
    exact ht d v (by rw [hsame d hn]; exact hv)
theorem DInv.exec {F : Fence} {ops : Array Oper} {cl : List Nat} {hist : Hist} {nbOf : Nat → Option Nat} {tm0 : T V} {m : List Nat} {h : H} {fl : List (Nat × (H → Bool))} {listed : Array Bool} {ρ0 : Ren} {h0 : H} {w0 : World} {ρ : Ren} {a : Act} {w : World}
    (hc : closOk ops.toList cl = true) (D : DInv P N F ops cl hist nbOf tm0 m h fl listed ρ0 h0 w0 ρ a w) {pre post : Hist} {i : Nat} {o : Oper} {v : V} (he : hist = pre ++ (i, o, v) :: post) (hi : lst listed i = false)
    (hready : ∀ e ∈ o.after.toList, Region.binds .any e = true → lst listed e.on = true) (hb : opBnd N P.globals.size o = true) (hF : FW F) {n : Nat} {Q : Exit → Act → World → Prop} {K : Act → World → Prop}
    (hK : ∀ ρ' a' w', DInv P N F ops cl hist nbOf tm0 m h fl (listed.setIfInBounds i true) ρ0 h0 w0 ρ' a' w' → K a' w') : wpOpIn F n P ops Q i K a w := by
  obtain ⟨hp1, hp2, hp3, hp4⟩ := D.pend pre i o v post he hi
  obtain ⟨ho, q2, q3, q5⟩ := D.hok pre i o v post he
  have hlt : i < ops.size := by have := (List.getElem?_eq_some_iff.1 ho).1; simpa using this
  have hltL : i < listed.size := by rw [D.size]; exact hlt
  have hclr := clos_listed hc D.dc
  have hcl : ∀ j k, lst listed j = true → k < ops.toList.length → Nat.testBit (cl.getD j 0) k = true → lst listed k = true := fun j k hj hk hbit => by
    obtain ⟨p, hp, rfl⟩ := D.sub j hj
    have hall := D.hok.of_mem hp
    exact hclr p.1 _ hall (D.dc p.1 _ hall hj) k hk hbit
  have pr := HistOk.pair (he ▸ D.hok) hcl (fun k hk hbit => hclr i o ho hready k hk hbit) hi
  have hneeds : Needs ρ ops o (puts (fun _ => true) pre tm0) a := needs_of D.aft.hr D.tr (fun d hd => by rw [he]; exact pr.reads hi hd tm0) hb
  refine hp2.2 h (Ag.refl _) F n ρ a w K Q hF hneeds D.aft.hr hp3 fun ρ' x w' e1 e2 e3 e4 => ?_
  obtain ⟨hbd, _⟩ := opBnd_true hb
  have trm : TR ρ' (puts (lst listed) hist tm0) a.tmps := D.tr.mono e1.le
  obtain ⟨t1, t2, t3⟩ := trm.dst D.sizeN hbd e3
  have hset := fun j => lst_set (listed := listed) (j := j) hltL
  refine hK ρ' _ w' ⟨by simp [D.size], D.hok, fun j hj => ?_, fun j o' hj' hj e hee hbe => ?_, fun pre' i' o' v' post' he' hi' => ?_, D.nbs, D.nbge, D.nblt, D.ok, ?_, ?_, by rw [t3]; exact D.df.mono e1.le, t2, D.round⟩
  · rw [hset] at hj
    by_cases e : j = i
    · subst e; exact ⟨(j, o, v), by rw [he]; simp, rfl⟩
    · rw [if_neg e] at hj; exact D.sub j hj
  · rw [hset]
    split
    · rfl
    · rw [hset] at hj
      by_cases e' : j = i
      · subst e'
        rw [ho] at hj'; cases hj'
        exact hready e hee hbe
      · rw [if_neg e'] at hj; exact D.dc j o' hj' hj e hee hbe
  · rw [hset] at hi'
    by_cases e' : i' = i
    · rw [if_pos e'] at hi'; cases hi'
    · rw [if_neg e'] at hi'
      obtain ⟨g1, g2, g3, g4⟩ := D.pend pre' i' o' v' post' he' hi'
      refine ⟨g1, g2, fun b hb' => ?_, g4⟩
      cases hρ : ρ' b with
      | none => rfl
      | some y =>
        have := e4 b (g3 b hb') (by rw [hρ]; simp)
        exact absurd (D.nbs i' i b hb' this) e'
  · refine ⟨D.aft.mv.trans e1, fun b hb1 hb2 => ?_, e2⟩
    cases hρ : ρ b with
    | none => exact D.nbge i b (e4 b hρ hb2)
    | some y => exact D.aft.nw b hb1 (by rw [hρ]; simp)
  · intro t u hu
    have hL : ∀ p ∈ pre ++ post, lst (listed.setIfInBounds i true) p.1 = lst listed p.1 := fun p hp => by
      rw [hset, if_neg]
      intro e
      rcases List.mem_append.1 hp with hp | hp
      · exact q5 p hp e
      · obtain ⟨a', b', e'⟩ := List.append_of_mem hp
        have := (D.hok (pre ++ (i, o, v) :: a') p.1 p.2.1 p.2.2 b' (by rw [he, e']; simp)).2.2.2 (i, o, v) (by simp)
        exact this e.symm
    have := pr.writes (v := v) (L' := lst (listed.setIfInBounds i true)) hi (by rw [hset, if_pos rfl]) hL tm0 t
    rw [← he] at this
    rw [this] at hu
    exact t1 t u hu
theorem puts_snoc (L : Nat → Bool) (hist : Hist) (i : Nat) (o : Oper) (v : V) (tm0 : T V) : puts L (hist ++ [(i, o, v)]) tm0 = if L i then tmDst o.dst v (puts L hist tm0) else puts L hist tm0 := by
  rw [puts_append]; rfl
theorem DInv.pass {F : Fence} {ops : Array Oper} {cl : List Nat} {hist : Hist} {nbOf : Nat → Option Nat} {tm0 : T V} {m : List Nat} {h h1 : H} {fl fl1 : List (Nat × (H → Bool))} {listed : Array Bool} {ρ0 : Ren} {h0 : H} {w0 : World} {ρ : Ren} {a : Act} {w : World}
    (D : DInv P N F ops cl hist nbOf tm0 m h fl listed ρ0 h0 w0 ρ a w) {i : Nat} {o : Oper} {v : V} {nb : Option Nat} {c : H → Bool} (hh : HistOk ops.toList cl (hist ++ [(i, o, v)])) (hact : isAct o.op = false) (hok : h1.ok) (hag : Ag h h1) (hnb : ∀ b, nb = some b → h.next ≤ b)
    (hp : Pnd P ops i o (puts (fun _ => true) hist tm0) v nb h1) (hc : ∀ h2 : H, h2.ok → c h2 = true → Pnd P ops i o (puts (fun _ => true) hist tm0) v nb h2)
    (hf : (isRd o.op = true ∧ fl1 = (i, c) :: fl) ∨ ((∀ h2, Pnd P ops i o (puts (fun _ => true) hist tm0) v nb h2) ∧ fl1 = fl)) :
    DInv P N F ops cl (hist ++ [(i, o, v)]) (fun j => if j = i then nb else nbOf j) tm0 m h1 fl1 listed ρ0 h0 w0 ρ a w := by
  obtain ⟨_, _, _, hne⟩ := hh hist i o v [] rfl
  have hsub : ∀ f ∈ fl, f ∈ fl1 := fun f hf' => by rcases hf with ⟨_, rfl⟩ | ⟨_, rfl⟩ <;> simp [hf']
  have hLi : lst listed i = false := by
    cases hL : lst listed i with
    | false => rfl
    | true => obtain ⟨p, hp', e⟩ := D.sub i hL; exact absurd e (hne p hp')
  have hnext := D.aft.mv.next
  refine ⟨D.size, hh, fun j hj => ?_, D.dc, fun pre j o' v' post he hj => ?_, fun j k b hj hk => ?_, fun j b hj => ?_, fun j b hj => ?_, hok, D.aft.trans (Aft.ag D.aft.hr hag), ?_, D.df, D.sizeN, D.round⟩
  · obtain ⟨p, hp', e⟩ := D.sub j hj; exact ⟨p, by simp [hp'], e⟩
  · rcases snoc_split he with ⟨rfl, rfl, e⟩ | ⟨post', rfl, e⟩
    · cases e
      refine ⟨hact, by simpa using hp, fun b hb => ?_, ?_⟩
      · simp only [if_true] at hb
        cases hρ : ρ b with
        | none => rfl
        | some y => obtain ⟨x1, x2, x3⟩ := y; have := (D.aft.hr.dom _ _ _ _ hρ).1; have := hnb b hb; omega
      · rcases hf with ⟨hrd, rfl⟩ | ⟨h2, _⟩
        · exact .inl ⟨hrd, c, by simp, by simpa using hc⟩
        · exact .inr (by simpa using h2)
    · have hji : j ≠ i := hne (j, o', v') (by rw [e]; simp)
      obtain ⟨g1, g2, g3, g4⟩ := D.pend pre j o' v' post' e hj
      simp only [if_neg hji]
      refine ⟨g1, g2.ag hag, g3, ?_⟩
      rcases g4 with ⟨hrd, c', g5, g6⟩ | g5
      · exact .inl ⟨hrd, c', hsub _ g5, g6⟩
      · exact .inr g5
  · by_cases h1' : j = i <;> by_cases h2' : k = i
    · rw [h1', h2']
    · rw [if_pos h1'] at hj; rw [if_neg h2'] at hk
      have := hnb b hj; have := D.nblt k b hk; omega
    · rw [if_neg h1'] at hj; rw [if_pos h2'] at hk
      have := hnb b hk; have := D.nblt j b hj; omega
    · rw [if_neg h1'] at hj; rw [if_neg h2'] at hk; exact D.nbs j k b hj hk
  · by_cases h1' : j = i
    · rw [if_pos h1'] at hj; have := hnb b hj; omega
    · rw [if_neg h1'] at hj; exact D.nbge j b hj
  · by_cases h1' : j = i
    · rw [if_pos h1'] at hj; exact hp.1 b hj
    · rw [if_neg h1'] at hj; exact Nat.lt_of_lt_of_le (D.nblt j b hj) hag.next
  · rw [puts_snoc, hLi]; exact D.tr
theorem DInv.act {F : Fence} {ops : Array Oper} {cl : List Nat} {hist : Hist} {nbOf : Nat → Option Nat} {tm0 : T V} {m : List Nat} {h h1 : H} {fl fl1 : List (Nat × (H → Bool))} {listed : Array Bool} {ρ0 : Ren} {h0 : H} {w0 : World} {ρ : Ren} {a : Act} {w : World}
    (hcl : closOk ops.toList cl = true) (D : DInv P N F ops cl hist nbOf tm0 m h fl listed ρ0 h0 w0 ρ a w) {i : Nat} {o : Oper} {v : V} (hh : HistOk ops.toList cl (hist ++ [(i, o, v)])) (hok : h1.ok)
    (hready : ∀ e ∈ o.after.toList, Region.binds .any e = true → lst listed e.on = true) (hb : opBnd N P.globals.size o = true) (hp : Prt P ops i o (puts (fun _ => true) hist tm0) h v h1)
    (hf : ∀ f ∈ fl, Nat.testBit (cl.getD i 0) f.1 = true ∨ (f ∈ fl1 ∧ f.2 h1 = true)) (hF : FW F) {n : Nat} {Q : Exit → Act → World → Prop} {K : Act → World → Prop}
    (hK : ∀ ρ' a' w', DInv P N F ops cl (hist ++ [(i, o, v)]) nbOf tm0 m h1 fl1 (listed.setIfInBounds i true) ρ0 h0 w0 ρ' a' w' → K a' w') : wpOpIn F n P ops Q i K a w := by
  obtain ⟨ho, q2, q3, hne⟩ := hh hist i o v [] rfl
  have hlt : i < ops.size := by have := (List.getElem?_eq_some_iff.1 ho).1; simpa using this
  have hltL : i < listed.size := by rw [D.size]; exact hlt
  have hset := fun j => lst_set (listed := listed) (j := j) hltL
  have hclr := clos_listed hcl D.dc
  have hLi : lst listed i = false := by
    cases hL : lst listed i with
    | false => rfl
    | true => obtain ⟨p, hp', e⟩ := D.sub i hL; exact absurd e (hne p hp')
  have hcl' : ∀ j k, lst listed j = true → k < ops.toList.length → Nat.testBit (cl.getD j 0) k = true → lst listed k = true := fun j k hj hk hbit => by
    obtain ⟨p, hp, rfl⟩ := D.sub j hj
    have hall := D.hok.of_mem hp
    exact hclr p.1 _ hall (D.dc p.1 _ hall hj) k hk hbit
  have pr := HistOk.pair hh hcl' (fun k hk hbit => hclr i o ho hready k hk hbit) hLi
  have hneeds : Needs ρ ops o (puts (fun _ => true) hist tm0) a := needs_of D.aft.hr D.tr (fun d hd => by
    have := pr.reads (v := v) hLi hd tm0
    rw [puts_snoc, hLi] at this; simpa using this) hb
  refine hp F n ρ a w K Q hF hneeds D.aft.hr fun ρ' x w' haft hv => ?_
  obtain ⟨hbd, _⟩ := opBnd_true hb
  have trm : TR ρ' (puts (lst listed) hist tm0) a.tmps := D.tr.mono haft.mv.le
  obtain ⟨t1, t2, t3⟩ := trm.dst D.sizeN hbd hv
  refine hK ρ' _ w' ⟨by simp [D.size], hh, fun j hj => ?_, fun j o' hj' hj e hee hbe => ?_, fun pre j o' v' post he hj => ?_, D.nbs, D.nbge, fun j b hj => Nat.lt_of_lt_of_le (D.nblt j b hj) haft.mv.next, hok, D.aft.trans haft, ?_, by rw [t3]; exact D.df.mono haft.mv.le, t2, D.round⟩
  · rw [hset] at hj
    by_cases e : j = i
    · exact ⟨(i, o, v), by simp, e.symm⟩
    · rw [if_neg e] at hj; obtain ⟨p, hp', e'⟩ := D.sub j hj; exact ⟨p, by simp [hp'], e'⟩
  · rw [hset]
    split
    · rfl
    · rw [hset] at hj
      by_cases e' : j = i
      · subst e'; rw [ho] at hj'; cases hj'; exact hready e hee hbe
      · rw [if_neg e'] at hj; exact D.dc j o' hj' hj e hee hbe
  · rw [hset] at hj
    have hji : j ≠ i := fun e => by rw [if_pos e] at hj; cases hj
    rw [if_neg hji] at hj
    rcases snoc_split he with ⟨rfl, rfl, e⟩ | ⟨post', rfl, e⟩
    · cases e; exact absurd rfl hji
    · obtain ⟨g1, g2, g3, g4⟩ := D.pend pre j o' v' post' e hj
      have nb' : ∀ b, nbOf j = some b → ρ' b = none := fun b hb' => by
        cases hρ : ρ' b with
        | none => rfl
        | some y =>
          have := haft.nw b (g3 b hb') (by rw [hρ]; simp)
          have := D.nblt j b hb'; omega
      rcases g4 with ⟨hrd, c', g5, g6⟩ | g5
      · rcases hf _ g5 with hbit | ⟨g7, g8⟩
        · have hjn : j < ops.toList.length := (List.getElem?_eq_some_iff.1 (D.hok pre j o' v' post' e).1).1
          have := hclr i o ho hready j hjn hbit
          rw [this] at hj; cases hj
        · exact ⟨g1, g6 h1 hok g8, nb', .inl ⟨hrd, c', g7, g6⟩⟩
      · exact ⟨g1, g5 h1, nb', .inr g5⟩
  · intro t u hu
    rw [puts_snoc, hset, if_pos rfl] at hu
    simp only [if_true] at hu
    refine t1 t u ?_
    rw [← hu, get_tmDst, get_tmDst]
    by_cases hd : o.dst = some t
    · rw [if_pos hd, if_pos hd]
    · rw [if_neg hd, if_neg hd]
      exact puts_same hist _ _ rfl fun p hp' _ => by rw [hset, if_neg (hne p hp')]
end Go.Ev
/-
  ENGINE, PART 37: regions that draw their order: the induction.
-/
namespace Go.Ev
variable {P : Program} {N : Nat}

/-- how many are not listed -/
def unl (listed : Array Bool) (n : Nat) : Nat := ((List.range n).filter fun i => !lst listed i).length
theorem filter_remove {p q : Nat → Bool} {i : Nat} : ∀ {l : List Nat}, l.Nodup → i ∈ l → p i = true → (∀ j ∈ l, q j = (p j && !(j == i))) → (l.filter p).length = (l.filter q).length + 1
  | [], _, hi, _, _ => by cases hi
  | x :: l, hn, hi, hp, hq => by
    obtain ⟨hx, hn'⟩ := List.nodup_cons.1 hn
    by_cases e : x = i
    · subst e
      have h1 : q x = false := by rw [hq x (by simp)]; simp
      have h2 : l.filter q = l.filter p := List.filter_congr fun j hj => by
        rw [hq j (by simp [hj])]
        have : j ≠ x := fun e => hx (e ▸ hj)
        simp [this]
      simp [hp, h1, h2]
    · have hi' : i ∈ l := by rcases List.mem_cons.1 hi with h | h; exact absurd h.symm e; exact h
      have ih := filter_remove hn' hi' hp (fun j hj => hq j (by simp [hj]))
      have hqx : q x = p x := by rw [hq x (by simp)]; simp [e]
      cases hpx : p x with
      | true => simp [hpx, hqx, ih]
      | false => simp [hpx, hqx, ih]
theorem unl_set {listed : Array Bool} {n i : Nat} (hs : listed.size = n) (hi : i < n) (hl : lst listed i = false) : unl listed n = unl (listed.setIfInBounds i true) n + 1 := by
  unfold unl
  refine filter_remove (i := i) List.nodup_range (List.mem_range.2 hi) (by simp [hl]) fun j hj => ?_
  rw [lst_set (by omega)]
  by_cases e : j = i
  · subst e; simp
  · simp [e]
theorem unl_pos {listed : Array Bool} {n i : Nat} (hi : i < n) (hl : lst listed i = false) : unl listed n ≠ 0 := by
  unfold unl
  intro h
  have := List.length_eq_zero_iff.1 h
  have hm : i ∈ (List.range n).filter fun i => !lst listed i := by simp [hi, hl]
  rw [this] at hm; cases hm
/-- what the operations of the history wait for stands in their masks -/
def HistE (cl : List Nat) (hist : Hist) : Prop := ∀ p ∈ hist, edgesOk (cl.getD p.1 0) p.1 p.2.1 = true
theorem edgesOk_true {m i : Nat} {o : Oper} (h : edgesOk m i o = true) {e : Edge} (he : e ∈ o.after.toList) (hb : Region.binds .any e = true) : e.on < i ∧ Nat.testBit m e.on = true := by
  have := List.all_eq_true.1 h e he
  rw [hb] at this
  simp only [Bool.not_true, Bool.false_or, Bool.and_eq_true] at this
  rw [nblt] at this
  exact ⟨by simpa using this.1, this.2⟩
/-- the first one that is not listed is ready -/
theorem first_ready {all : List Oper} {cl : List Nat} {hist : Hist} (hh : HistOk all cl hist) (hE : HistE cl hist) {L : Nat → Bool} : ∀ (pre post : Hist), hist = pre ++ post → (∀ p ∈ pre, L p.1 = true) → (∃ p ∈ post, L p.1 = false) →
    ∃ i o, all[i]? = some o ∧ L i = false ∧ ∀ e ∈ o.after.toList, Region.binds .any e = true → L e.on = true
  | pre, [], _, _, h => by obtain ⟨p, hp, _⟩ := h; cases hp
  | pre, (i, o, v) :: post, he, hpre, h => by
    obtain ⟨h1, h2, _⟩ := hh pre i o v post he
    cases hL : L i with
    | false =>
      refine ⟨i, o, h1, hL, fun e hee hb => ?_⟩
      obtain ⟨g1, g2⟩ := edgesOk_true (hE (i, o, v) (by rw [he]; simp)) hee hb
      have hi : i < all.length := (List.getElem?_eq_some_iff.1 h1).1
      obtain ⟨p, hp, e'⟩ := h2 e.on (by omega) g2
      rw [← e']; exact hpre p hp
    | true =>
      refine first_ready hh hE (pre ++ [(i, o, v)]) post (by rw [he]; simp) (fun p hp => ?_) ?_
      · rcases List.mem_append.1 hp with hp | hp
        · exact hpre p hp
        · simp at hp; subst hp; exact hL
      · obtain ⟨p, hp, hpl⟩ := h
        rcases List.mem_cons.1 hp with rfl | hp
        · rw [hL] at hpl; cases hpl
        · exact ⟨p, hp, hpl⟩
end Go.Ev
/-
  ENGINE, PART 38: regions that draw their order: a stage.
-/
namespace Go.Ev
variable {P : Program} {N : Nat}

theorem stage_act {F : Fence} (hF : FW F) {ops : Array Oper} {cl : List Nat} {hist : Hist} {nbOf : Nat → Option Nat} {tm0 : T V} {m : List Nat} {h h1 : H} {fl fl1 : List (Nat × (H → Bool))} {ρ0 : Ren} {h0 : H} {w0 : World}
    (hcl : closOk ops.toList cl = true) (hbnd : ∀ o ∈ ops.toList, opBnd N P.globals.size o = true) {i : Nat} {o : Oper} {v : V} (hh : HistOk ops.toList cl (hist ++ [(i, o, v)])) (hE : HistE cl (hist ++ [(i, o, v)])) (hok : h1.ok)
    (hp : Prt P ops i o (puts (fun _ => true) hist tm0) h v h1) (hf : ∀ f ∈ fl, Nat.testBit (cl.getD i 0) f.1 = true ∨ (f ∈ fl1 ∧ f.2 h1 = true))
    (hother : ∀ j q, ops.toList[j]? = some q → (∀ p ∈ hist, p.1 ≠ j) → j ≠ i → Nat.testBit (cl.getD j 0) i = true) {n : Nat} {Q : Exit → Act → World → Prop}
    (next : ∀ fuel listed ρ a w, DInv P N F ops cl (hist ++ [(i, o, v)]) nbOf tm0 m h1 fl1 listed ρ0 h0 w0 ρ a w → unl listed ops.size = fuel → wpAnyIn F n P .any ops Q fuel listed a w) :
    ∀ fuel listed ρ a w, DInv P N F ops cl hist nbOf tm0 m h fl listed ρ0 h0 w0 ρ a w → unl listed ops.size = fuel → wpAnyIn F n P .any ops Q fuel listed a w := by
  obtain ⟨ho, q2, q3, hne⟩ := hh hist i o v [] rfl
  have hlt : i < ops.size := by have := (List.getElem?_eq_some_iff.1 ho).1; simpa using this
  intro fuel
  induction fuel with
  | zero =>
    intro listed ρ a w D hu
    have hLi : lst listed i = false := by
      cases hL : lst listed i with
      | false => rfl
      | true => obtain ⟨p, hp', e⟩ := D.sub i hL; exact absurd e (hne p hp')
    exact absurd hu (unl_pos hlt hLi)
  | succ fuel ih =>
    intro listed ρ a w D hu
    have hLi : lst listed i = false := by
      cases hL : lst listed i with
      | false => rfl
      | true => obtain ⟨p, hp', e⟩ := D.sub i hL; exact absurd e (hne p hp')
    refine ⟨fun hr => ?_, fun j hj => ?_⟩
    · obtain ⟨j, q, g1, g2, g3⟩ := first_ready hh hE [] (hist ++ [(i, o, v)]) rfl (fun p hp => by cases hp) ⟨(i, o, v), by simp, hLi⟩
      have := (ready_mem D.size).2 ⟨q, g1, g2, g3⟩
      rw [hr] at this; cases this
    · obtain ⟨q, g1, g2, g3⟩ := (ready_mem D.size).1 hj
      have hjlt : j < ops.size := by have := (List.getElem?_eq_some_iff.1 g1).1; simpa using this
      have hqb := hbnd q (List.mem_of_getElem? g1)
      have hun : unl (listed.setIfInBounds j true) ops.size = fuel := by have := unl_set D.size hjlt g2; omega
      by_cases hm : ∃ p ∈ hist, p.1 = j
      · obtain ⟨p, hp', rfl⟩ := hm
        obtain ⟨pre, post, e⟩ := List.append_of_mem hp'
        have hq : q = p.2.1 := by have := D.hok.of_mem hp'; rw [g1] at this; exact (Option.some.inj this)
        subst hq
        exact D.exec hcl (pre := pre) (post := post) (v := p.2.2) e g2 g3 hqb hF fun ρ' a' w' D' => ih _ ρ' a' w' D' hun
      · have hnm : ∀ p ∈ hist, p.1 ≠ j := fun p hp' e => hm ⟨p, hp', e⟩
        by_cases hji : j = i
        · subst hji
          rw [ho] at g1; cases g1
          exact D.act hcl hh hok g3 hqb hp hf hF fun ρ' a' w' D' => next _ _ ρ' a' w' D' hun
        · have hbit := hother j q g1 hnm hji
          have := clos_listed hcl D.dc j q g1 g3 i (by simpa using hlt) hbit
          rw [this] at hLi; cases hLi
theorem unl_zero {listed : Array Bool} {n : Nat} (h : unl listed n = 0) {i : Nat} (hi : i < n) : lst listed i = true := by
  cases hl : lst listed i with
  | true => rfl
  | false => exact absurd h (unl_pos hi hl)
/-- the end, where no stores are left over -/
theorem stage_end {F : Fence} (hF : FW F) {ops : Array Oper} {cl : List Nat} {hist : Hist} {nbOf : Nat → Option Nat} {tm0 : T V} {m : List Nat} {h : H} {fl : List (Nat × (H → Bool))} {ρ0 : Ren} {h0 : H} {w0 : World}
    (hcl : closOk ops.toList cl = true) (hbnd : ∀ o ∈ ops.toList, opBnd N P.globals.size o = true) (hE : HistE cl hist) (full : ∀ j, j < ops.size → ∃ p ∈ hist, p.1 = j) {n : Nat} {Q : Exit → Act → World → Prop}
    (hQ : ∀ listed ρ a w, DInv P N F ops cl hist nbOf tm0 m h fl listed ρ0 h0 w0 ρ a w → (∀ j, j < ops.size → lst listed j = true) → Q .normal a w) :
    ∀ fuel listed ρ a w, DInv P N F ops cl hist nbOf tm0 m h fl listed ρ0 h0 w0 ρ a w → unl listed ops.size = fuel → wpAnyIn F n P .any ops Q fuel listed a w := by
  intro fuel
  induction fuel with
  | zero =>
    intro listed ρ a w D hu
    refine ⟨?_, hQ listed ρ a w D fun j hj => unl_zero hu hj⟩
    cases hr : Region.ready .any ops listed with
    | nil => rfl
    | cons j l =>
      obtain ⟨q, g1, g2, g3⟩ := (ready_mem D.size).1 (show j ∈ Region.ready .any ops listed by rw [hr]; simp)
      have hjlt : j < ops.size := by have := (List.getElem?_eq_some_iff.1 g1).1; simpa using this
      rw [unl_zero hu hjlt] at g2; cases g2
  | succ fuel ih =>
    intro listed ρ a w D hu
    refine ⟨fun hr => ?_, fun j hj => ?_⟩
    · by_cases hx : ∃ p ∈ hist, lst listed p.1 = false
      · obtain ⟨j, q, g1, g2, g3⟩ := first_ready D.hok hE [] hist rfl (fun p hp => by cases hp) hx
        have := (ready_mem D.size).2 ⟨q, g1, g2, g3⟩
        rw [hr] at this; cases this
      · refine hQ listed ρ a w D fun j hj => ?_
        obtain ⟨p, hp, rfl⟩ := full j hj
        cases hl : lst listed p.1 with
        | true => rfl
        | false => exact absurd ⟨p, hp, hl⟩ hx
    · obtain ⟨q, g1, g2, g3⟩ := (ready_mem D.size).1 hj
      have hjlt : j < ops.size := by have := (List.getElem?_eq_some_iff.1 g1).1; simpa using this
      have hqb := hbnd q (List.mem_of_getElem? g1)
      have hun : unl (listed.setIfInBounds j true) ops.size = fuel := by have := unl_set D.size hjlt g2; omega
      obtain ⟨p, hp', rfl⟩ := full j hjlt
      obtain ⟨pre, post, e⟩ := List.append_of_mem hp'
      have hq : q = p.2.1 := by have := D.hok.of_mem hp'; rw [g1] at this; exact (Option.some.inj this)
      subst hq
      exact D.exec hcl (pre := pre) (post := post) (v := p.2.2) e g2 g3 hqb hF fun ρ' a' w' D' => ih _ ρ' a' w' D' hun
end Go.Ev
/-
  ENGINE, PART 39: regions that draw their order: masks.
-/
namespace Go.Ev
variable {P : Program} {N : Nat}

theorem bit_add {m i j : Nat} : Nat.testBit (Nat.lor m (Nat.pow 2 i)) j = (Nat.testBit m j || decide (i = j)) := by
  show Nat.testBit (m ||| 2 ^ i) j = _
  rw [Nat.testBit_or, Nat.testBit_two_pow]
theorem bit_sub {m d j : Nat} (h : Nat.land m d = m) (hj : Nat.testBit m j = true) : Nat.testBit d j = true := by
  have h1 : Nat.testBit (m &&& d) j = true := by rw [show m &&& d = m from h]; exact hj
  rw [Nat.testBit_and, Bool.and_eq_true] at h1
  exact h1.2
theorem bit_sub' {m d j : Nat} (h : Nat.land m d = d) (hj : Nat.testBit d j = true) : Nat.testBit m j = true := by
  have h1 : Nat.testBit (m &&& d) j = true := by rw [show m &&& d = d from h]; exact hj
  rw [Nat.testBit_and, Bool.and_eq_true] at h1
  exact h1.1
/-- the masks of what is behind -/
structure Masks (hist : Hist) (done acts : Nat) : Prop where
  done : ∀ j, Nat.testBit done j = true ↔ ∃ p ∈ hist, p.1 = j
  acts : ∀ p ∈ hist, isAct p.2.1.op = true → Nat.testBit acts p.1 = true
theorem orderOk_cons {all : List Oper} {cl : List Nat} {it : It} {l : List It} {done acts : Nat} {o : Oper} (ho : all[it.i]? = some o) (h : orderOk all cl (it :: l) done acts = true) {hist : Hist} (hm : Masks hist done acts) (hh : HistOk all cl hist) (hE : HistE cl hist) (v : V) :
    it.clo = cl.getD it.i 0 ∧ HistOk all cl (hist ++ [(it.i, o, v)]) ∧ HistE cl (hist ++ [(it.i, o, v)]) ∧ ∃ done' acts', Masks (hist ++ [(it.i, o, v)]) done' acts' ∧ orderOk all cl l done' acts' = true ∧ (isAct o.op = true → Nat.testBit acts' it.i = true) := by
  unfold orderOk at h
  rw [ho] at h
  simp only [Bool.and_eq_true, Bool.not_eq_true'] at h
  obtain ⟨⟨⟨⟨⟨⟨h1, h2⟩, h3⟩, h4⟩, h5⟩, h6⟩, h7⟩ := h
  rw [nbeq, decide_eq_true_iff] at h1 h3 h4
  have hne : ∀ p ∈ hist, p.1 ≠ it.i := fun p hp e => by have := (hm.done it.i).2 ⟨p, hp, e⟩; rw [h2] at this; cases this
  refine ⟨h1.symm, hh.snoc ho (fun j _ hb => (hm.done j).1 (bit_sub h3 (by rw [← h1]; exact hb))) (by rw [h1]; exact h5) hne, fun p hp => ?_, _, _, ⟨fun j => ?_, fun p hp ha => ?_⟩, h7, fun ha => ?_⟩
  · rcases List.mem_append.1 hp with hp | hp
    · exact hE p hp
    · simp at hp; subst hp; simp only [h1]; exact h6
  · rw [bit_add, Bool.or_eq_true, decide_eq_true_iff, hm.done j]
    constructor
    · rintro (⟨p, hp, e⟩ | e)
      · exact ⟨p, by simp [hp], e⟩
      · exact ⟨(it.i, o, v), by simp, e⟩
    · rintro ⟨p, hp, e⟩
      rcases List.mem_append.1 hp with hp | hp
      · exact .inl ⟨p, hp, e⟩
      · simp at hp; subst hp; exact .inr e
  · rcases List.mem_append.1 hp with hp | hp
    · have := hm.acts p hp ha
      split
      · rw [bit_add, this]; rfl
      · exact this
    · simp at hp; subst hp
      simp only at ha
      rw [if_pos ha, bit_add]; simp
  · rw [if_pos ha, bit_add]; simp
end Go.Ev
/-
  ENGINE, PART 40: regions that draw their order: the induction along the evaluator's way.
-/
namespace Go.Ev
variable {P : Program} {N : Nat}

theorem order_acts {all : List Oper} {cl : List Nat} {i : Nat} : ∀ {l : List It} {done acts : Nat}, orderOk all cl l done acts = true → Nat.testBit acts i = true → ∀ it ∈ l, Nat.testBit (cl.getD it.i 0) i = true
  | [], _, _, _, _, it, hit => by cases hit
  | x :: l, done, acts, h, hb, it, hit => by
    unfold orderOk at h
    split at h
    · cases h
    · rename_i o ho
      simp only [Bool.and_eq_true, Bool.not_eq_true'] at h
      obtain ⟨⟨⟨⟨⟨⟨h1, h2⟩, h3⟩, h4⟩, h5⟩, h6⟩, h7⟩ := h
      rw [nbeq, decide_eq_true_iff] at h1 h3 h4
      rcases List.mem_cons.1 hit with rfl | hit
      · rw [h1]; exact bit_sub' h4 hb
      · refine order_acts h7 ?_ it hit
        split
        · rw [bit_add, hb]; rfl
        · exact hb
theorem draw_main {F : Fence} (hF : FW F) {ops : Array Oper} {cl : List Nat} {tm0 : T V} {m : List Nat} {ρ0 : Ren} {h0 : H} {w0 : World} (hcl : closOk ops.toList cl = true) (hbnd : ∀ o ∈ ops.toList, opBnd N P.globals.size o = true) {rest : List Nat} {n : Nat} {Q : Exit → Act → World → Prop}
    {G : Nat → Prop} {its : List It} {tm tm' : T V} {h h' : H} {fl fl' : List (Nat × (H → Bool))} (tr : Tr P ops its tm h fl tm' h' fl')
    (hrest : ∀ j ∈ rest, ∀ it ∈ its, ∀ q, ops.toList[it.i]? = some q → isAct q.op = true → Nat.testBit (cl.getD j 0) it.i = true)
    (hG : ∀ it ∈ its, G it.i) (hEnd : ∀ hist nbOf, (∀ p ∈ hist, G p.1) → tm' = puts (fun _ => true) hist tm0 → HistOk ops.toList cl hist → HistE cl hist → (∀ j, j < ops.size → (∃ p ∈ hist, p.1 = j) ∨ j ∈ rest) →
      ∀ fuel listed ρ a w, DInv P N F ops cl hist nbOf tm0 m h' fl' listed ρ0 h0 w0 ρ a w → unl listed ops.size = fuel → wpAnyIn F n P .any ops Q fuel listed a w) :
    ∀ {hist : Hist} {nbOf : Nat → Option Nat} {done acts : Nat}, (∀ p ∈ hist, G p.1) → tm = puts (fun _ => true) hist tm0 → Masks hist done acts → HistOk ops.toList cl hist → HistE cl hist → orderOk ops.toList cl its done acts = true →
      (∀ j, j < ops.size → (∃ p ∈ hist, p.1 = j) ∨ (∃ it ∈ its, it.i = j) ∨ j ∈ rest) →
      ∀ fuel listed ρ a w, DInv P N F ops cl hist nbOf tm0 m h fl listed ρ0 h0 w0 ρ a w → unl listed ops.size = fuel → wpAnyIn F n P .any ops Q fuel listed a w := by
  induction tr with
  | nil =>
    intro hist nbOf done acts hGh htm hm hh hE ho full
    exact hEnd hist nbOf hGh htm hh hE fun j hj => by
      rcases full j hj with g | ⟨it, hit, _⟩ | g
      · exact .inl g
      · cases hit
      · exact .inr g
  | @pas it l o tm tm' h h1 h' fl fl1 fl' v nb c hi ha hok hag hnb hp hc hf ht ih =>
    intro hist nbOf done acts hGh htm hm hh hE hord full fuel listed ρ a w D hu
    have hi' : ops.toList[it.i]? = some o := by simpa using hi
    obtain ⟨e1, hh', hE', done', acts', hm', hord', _⟩ := orderOk_cons hi' hord hm hh hE v
    subst htm
    refine ih (fun j hj it' hit' => hrest j hj it' (by simp [hit'])) (fun it' hit' => hG it' (by simp [hit'])) hEnd (fun p hp => by rcases List.mem_append.1 hp with hp | hp; exact hGh p hp; simp at hp; subst hp; exact hG it (by simp)) (by rw [puts_snoc]; simp) hm' hh' hE' hord' (fun j hj => ?_) fuel listed ρ a w (D.pass hh' ha hok hag hnb hp hc hf) hu
    rcases full j hj with ⟨p, hp', e⟩ | ⟨it', hit, e⟩ | g
    · exact .inl ⟨p, by simp [hp'], e⟩
    · rcases List.mem_cons.1 hit with rfl | hit
      · exact .inl ⟨(it'.i, o, v), by simp, e⟩
      · exact .inr (.inl ⟨it', hit, e⟩)
    · exact .inr (.inr g)
  | @act it l o tm tm' h h1 h' fl fl1 fl' v hi ha hok hp hf ht ih =>
    intro hist nbOf done acts hGh htm hm hh hE hord full
    have hi' : ops.toList[it.i]? = some o := by simpa using hi
    obtain ⟨e1, hh', hE', done', acts', hm', hord', hact'⟩ := orderOk_cons hi' hord hm hh hE v
    subst htm
    refine stage_act hF hcl hbnd hh' hE' hok hp (by rw [← e1]; exact hf) (fun j q hj hnm hne => ?_) (ih (fun j hj it' hit' => hrest j hj it' (by simp [hit'])) (fun it' hit' => hG it' (by simp [hit'])) hEnd (fun p hp => by rcases List.mem_append.1 hp with hp | hp; exact hGh p hp; simp at hp; subst hp; exact hG it (by simp)) (by rw [puts_snoc]; simp) hm' hh' hE' hord' (fun j hj => ?_))
    · have hjlt : j < ops.size := by have := (List.getElem?_eq_some_iff.1 hj).1; simpa using this
      rcases full j hjlt with ⟨p, hp', e⟩ | ⟨it', hit, e⟩ | g
      · exact absurd e (hnm p hp')
      · rcases List.mem_cons.1 hit with rfl | hit
        · exact absurd e.symm hne
        · rw [← e]; exact order_acts hord' (hact' ha) it' hit
      · exact hrest j g it (by simp) o hi' ha
    · rcases full j hj with ⟨p, hp', e⟩ | ⟨it', hit, e⟩ | g
      · exact .inl ⟨p, by simp [hp'], e⟩
      · rcases List.mem_cons.1 hit with rfl | hit
        · exact .inl ⟨(it'.i, o, v), by simp, e⟩
        · exact .inr (.inl ⟨it', hit, e⟩)
      · exact .inr (.inr g)
end Go.Ev
/-
  ENGINE, PART 41: the last stores of a region: heaps that say the same.
-/
namespace Go.Ev
variable {P : Program} {N : Nat}

/-- objects that say the same -/
inductive OEq : Option Ob → Option Ob → Prop
  | row {n : Nat} {cs cs' : T V} {e w : Nat} {ro : Bool} {fz : Nat} (h : ∀ i, cs'.get i = cs.get i) : OEq (some (.row n cs e w ro fz)) (some (.row n cs' e w ro fz))
  | same (o : Option Ob) : OEq o o
structure HEq' (h h' : H) : Prop where
  next : h'.next = h.next
  get : ∀ b, OEq (h.get b) (h'.get b)
theorem HEq'.refl (h : H) : HEq' h h := ⟨rfl, fun _ => .same _⟩
theorem OEq.trans {a b c : Option Ob} (h : OEq a b) (k : OEq b c) : OEq a c := by
  cases h with
  | same => exact k
  | row h1 => cases k with
    | same => exact .row h1
    | row h2 => exact .row fun i => (h2 i).trans (h1 i)
theorem HEq'.trans {a b c : H} (h : HEq' a b) (k : HEq' b c) : HEq' a c := ⟨k.next.trans h.next, fun x => (h.get x).trans (k.get x)⟩
theorem OEq.some_of {o' : Ob} {x : Option Ob} (h : OEq x (some o')) : ∃ o, x = some o ∧ o.ro = o'.ro ∧ ∀ (ρ : Ren) (s : Nat) (w : Wl) (ob : Go.Obj), OR ρ s w o ob → OR ρ s w o' ob := by
  cases h with
  | same => exact ⟨o', rfl, rfl, fun _ _ _ _ h => h⟩
  | row h1 => exact ⟨_, rfl, rfl, fun ρ s w ob ⟨hw, c, fr, e, r, hz⟩ => ⟨hw, c, fr, e, ⟨r.fits, r.exact_, fun i v hi hv => r.cell i v hi (by rw [← h1]; exact hv), r.free⟩, hz⟩⟩
theorem HR.heq {ρ : Ren} {h h' : H} {w : World} (hr : HR P ρ h w) (e : HEq' h h') : HR P ρ h' w := by
  refine ⟨fun b c s wl hb => by rw [e.next]; exact hr.dom b c s wl hb, fun b c s wl o' hb hg => ?_, fun b b' c s wl s' wl' o o' hb hb' hg hg' => ?_, hr.glob⟩
  · have := e.get b; rw [hg] at this
    obtain ⟨o, ho, _, hor⟩ := this.some_of
    obtain ⟨ob, h1, h2⟩ := hr.obj _ _ _ _ _ hb ho
    exact ⟨ob, h1, hor _ _ _ _ h2⟩
  · have h1 := e.get b; rw [hg] at h1
    have h2 := e.get b'; rw [hg'] at h2
    obtain ⟨x, hx, rx, _⟩ := h1.some_of
    obtain ⟨y, hy, ry, _⟩ := h2.some_of
    rw [← rx, ← ry]
    exact hr.inj _ _ _ _ _ _ _ _ _ hb hb' hx hy
theorem Aft.heq {ρ ρ' : Ren} {h h1 h2 : H} {w w' : World} (a : Aft P ρ h w h1 ρ' w') (e : HEq' h1 h2) : Aft P ρ h w h2 ρ' w' :=
  ⟨⟨a.mv.le, by rw [e.next]; exact a.mv.next, a.mv.size, a.mv.keep, fun b c s wl o hb hg hro hc => by
    have := e.get b; rw [hg] at this
    obtain ⟨x, hx, rx, _⟩ := this.some_of
    exact a.mv.wr b c s wl x hb hx (by rw [rx]; exact hro) hc, a.mv.os⟩, a.nw, a.hr.heq e⟩
theorem TR.teq {ρ : Ren} {tm tm' : T V} {t : Array Value} (h : TR ρ tm t) (e : ∀ i, tm'.get i = tm.get i) : TR ρ tm' t := fun i v hv => h i v (by rw [← e]; exact hv)
/-- a store into a row, on the abstract heap -/
def SR (h : H) (b o : Nat) (l : List V) (h' : H) : Prop := ∃ n cs e w fz, h.get b = some (.row n cs e w false fz) ∧ o + l.length ≤ n ∧ fz ≤ o + 1 ∧ (∀ v ∈ l, one v = true) ∧ h' = h.put b (some (.row n (T.ofList l o cs) e w false fz))
theorem storeRow_SR {b o : Nat} {l : List V} {h : H} {k : H → Bool} (hk : storeRow b o l h k = true) : ∃ h', k h' = true ∧ SR h b o l h' := by
  obtain ⟨n, cs, e, wi, ro, fz, hg, hk⟩ := rowK_true.1 hk
  cases ro with
  | true => cases hk
  | false =>
    obtain ⟨h1, hk⟩ := bg_true.1 (show bg (Nat.ble (Nat.add o (len l 0)) n) (bg (Nat.ble fz (Nat.succ o)) (stK l cs o fun cs' => h.putK b (some (.row n cs' e wi false fz)) k)) = true from hk)
    obtain ⟨h2, hk⟩ := bg_true.1 hk
    rw [nble, len0, decide_eq_true_iff] at h1
    rw [nble, decide_eq_true_iff] at h2
    obtain ⟨h3, h4⟩ := stK_true.1 hk
    rw [H.putK_eq] at h4
    exact ⟨_, h4, n, cs, e, wi, fz, hg, h1, h2, h3, rfl⟩
theorem SR.stores {h h' : H} {b o : Nat} {l : List V} (s : SR h b o l h') : StoresAt P h b o l h' := by
  obtain ⟨n, cs, e, wi, fz, hg, h1, h2, h3, rfl⟩ := s
  intro ρ w xs c s wl hr hb hl
  obtain ⟨hwi, arr, fr, hh, hrow, hsz⟩ := hr.row hb hg
  have hlen := hl.length
  have hfits := hrow.fits
  refine ⟨_, run_storeCells_row xs 0 arr w hh (by omega) (by simpa using hrow.room rfl h2) (hl.ones h3), Mv.store hb hg rfl, hr.store hb hg rfl ⟨hwi, _, fr, rfl, ?_, fun hne => by simpa using hsz hne⟩⟩
  rw [Nat.add_zero]
  exact hrow.stored hl h1
theorem SR.swap {h h1 h2 : H} {a oa b ob : Nat} {la lb : List V} (s1 : SR h a oa la h1) (s2 : SR h1 b ob lb h2) (hap : a ≠ b ∨ oa + la.length ≤ ob ∨ ob + lb.length ≤ oa) : ∃ g1 g2, SR h b ob lb g1 ∧ SR g1 a oa la g2 ∧ HEq' h2 g2 := by
  obtain ⟨n, cs, e, w, fz, hg, p1, p2, p3, rfl⟩ := s1
  obtain ⟨n', cs', e', w', fz', hg', q1, q2, q3, rfl⟩ := s2
  rw [H.get_put] at hg'
  by_cases hab : b = a
  · subst hab
    rw [if_pos rfl] at hg'
    cases hg'
    have hd : oa + la.length ≤ ob ∨ ob + lb.length ≤ oa := hap.resolve_left (fun h => h rfl)
    refine ⟨_, _, ⟨_, _, _, _, _, hg, q1, q2, q3, rfl⟩, ⟨_, _, _, _, _, by rw [H.get_put, if_pos rfl], p1, p2, p3, rfl⟩, rfl, fun x => ?_⟩
    rw [H.get_put, H.get_put, H.get_put, H.get_put]
    by_cases hx : x = b
    · rw [if_pos hx, if_pos hx]
      refine .row fun i => ?_
      rw [T.get_ofList, T.get_ofList, T.get_ofList, T.get_ofList]
      by_cases h1 : oa ≤ i ∧ i < oa + la.length <;> by_cases h2 : ob ≤ i ∧ i < ob + lb.length
      · omega
      · simp [h1, h2]
      · simp [h1, h2]
      · simp [h1, h2]
    · rw [if_neg hx, if_neg hx, if_neg hx, if_neg hx]; exact .same _
  · rw [if_neg hab] at hg'
    refine ⟨_, _, ⟨_, _, _, _, _, hg', q1, q2, q3, rfl⟩, ⟨_, _, _, _, _, by rw [H.get_put, if_neg (fun h => hab h.symm)]; exact hg, p1, p2, p3, rfl⟩, rfl, fun x => ?_⟩
    rw [H.get_put, H.get_put, H.get_put, H.get_put]
    by_cases hx : x = b
    · have : x ≠ a := fun h => hab (hx ▸ h)
      rw [if_pos hx, if_neg this, if_pos hx]; exact .same _
    · rw [if_neg hx, if_neg hx]; exact .same _
theorem SR.along {h g h1 : H} {b o : Nat} {l : List V} (e : HEq' h g) (s : SR h b o l h1) : ∃ g1, SR g b o l g1 ∧ HEq' h1 g1 := by
  obtain ⟨n, cs, el, w, fz, hg, p1, p2, p3, rfl⟩ := s
  have := e.get b
  rw [hg] at this
  generalize hx : g.get b = x at this
  have put : ∀ cs', (∀ i, cs'.get i = cs.get i) → g.get b = some (.row n cs' el w false fz) → ∃ g1, SR g b o l g1 ∧ HEq' (h.put b (some (.row n (T.ofList l o cs) el w false fz))) g1 := fun cs' hc hgb =>
    ⟨_, ⟨n, cs', el, w, fz, hgb, p1, p2, p3, rfl⟩, e.next, fun y => by
      rw [H.get_put, H.get_put]
      by_cases hy : y = b
      · rw [if_pos hy, if_pos hy]
        exact .row fun i => by rw [T.get_ofList, T.get_ofList, hc]
      · rw [if_neg hy, if_neg hy]; exact e.get y⟩
  cases this with
  | row hc => exact put _ hc hx
  | same => exact put cs (fun _ => rfl) hx
/-- stores, one behind the other: index, place, cells -/
abbrev SLi := List (Nat × Nat × Nat × List V)
def SL : H → SLi → H → Prop
  | h, [], h' => h' = h
  | h, (_, b, o, l) :: r, h' => ∃ h1, SR h b o l h1 ∧ SL h1 r h'
def Apart2 (p q : Nat × Nat × Nat × List V) : Prop := p.2.1 ≠ q.2.1 ∨ p.2.2.1 + p.2.2.2.length ≤ q.2.2.1 ∨ q.2.2.1 + q.2.2.2.length ≤ p.2.2.1
theorem SL.along : ∀ {r : SLi} {h g h' : H}, HEq' h g → SL h r h' → ∃ g', SL g r g' ∧ HEq' h' g'
  | [], h, g, h', e, s => by simp only [SL] at s; subst s; exact ⟨g, rfl, e⟩
  | (i, b, o, l) :: r, h, g, h', e, s => by
    obtain ⟨h1, s1, s2⟩ := s
    obtain ⟨g1, t1, e1⟩ := s1.along e
    obtain ⟨g', t2, e2⟩ := SL.along e1 s2
    exact ⟨g', ⟨g1, t1, t2⟩, e2⟩
theorem SL.first {s : Nat × Nat × Nat × List V} {post : SLi} : ∀ {pre : SLi} {h h' : H}, SL h (pre ++ s :: post) h' → (∀ p ∈ pre, Apart2 p s) → ∃ h1 g, SR h s.2.1 s.2.2.1 s.2.2.2 h1 ∧ SL h1 (pre ++ post) g ∧ HEq' h' g
  | [], h, h', hs, _ => by
    obtain ⟨i, b, o, l⟩ := s
    obtain ⟨h1, s1, s2⟩ := hs
    exact ⟨h1, h', s1, s2, .refl _⟩
  | (i, b, o, l) :: pre, h, h', hs, ha => by
    obtain ⟨hp, s1, s2⟩ := hs
    obtain ⟨h1, g, t1, t2, e⟩ := SL.first s2 (fun p hp => ha p (by simp [hp]))
    obtain ⟨g1, g2, u1, u2, e2⟩ := s1.swap t1 (ha (i, b, o, l) (by simp))
    obtain ⟨g', v1, e3⟩ := SL.along e2 t2
    exact ⟨g1, g', u1, ⟨g2, u2, v1⟩, e.trans e3⟩
end Go.Ev
/-
  ENGINE, PART 42: the last stores of a region: what the evaluator does.
-/
namespace Go.Ev
variable {P : Program} {N : Nat}

theorem OEq.symm {a b : Option Ob} (h : OEq a b) : OEq b a := by
  cases h with
  | same => exact .same _
  | row h => exact .row fun i => (h i).symm
theorem HEq'.symm {a b : H} (h : HEq' a b) : HEq' b a := ⟨h.next.symm, fun x => (h.get x).symm⟩
theorem SR.ok {h h' : H} {b o : Nat} {l : List V} (hok : h.ok) (s : SR h b o l h') : h'.ok := by
  obtain ⟨n, cs, e, w, fz, hg, _, _, _, rfl⟩ := s
  exact hok.put (hok _ _ hg)
/-- a left-over store, with its operands' values -/
def StoreAt (P : Program) (all : List Oper) (tm : T V) (s : Nat × Nat × Nat × List V) : Prop :=
  ∃ q t x y v, all[s.1]? = some q ∧ q.op = .store t x y ∧ opdV tm x = some (.ptr s.2.1 s.2.2.1) ∧ opdV tm y = some v ∧ cells v = s.2.2.2 ∧ sizeT P t = some s.2.2.2.length
theorem store_does {h h' : H} {b o sz t : Nat} {x y : Operand} {v : V} {q : Oper} {tm : T V} (s : SR h b o (cells v) h') (hq : q.op = .store t x y) (hp : opdV tm x = some (.ptr b o)) (hv : opdV tm y = some v) (hsz : sizeT P t = some sz) (h1 : (cells v).length = sz) : Does P q tm h (.tuple []) h' := by
  intro ρ ev w hops hr
  have hy := hops x (by simp [hq, Op.operands]) _ hp
  have hx := hops y (by simp [hq, Op.operands]) _ hv
  obtain ⟨c, s', wl, hb, he⟩ := hy.ptr_inv
  obtain ⟨w', e1, e2, e3⟩ := (s.stores (P := P)) ρ w (ev y).cells.toList c s' wl hr hb hx.cells
  have hsize : (ev y).cells.size = sz := by rw [← h1, ← hx.cells.length]; simp
  refine ⟨.skip, undef, w', ρ, ?_, .inr ⟨rfl, rfl⟩, e2, e3, VR.undef, Nw.refl _ _⟩
  have : (Instr.storeAt t (ev x) (ev y)).run P w = .ok () w' := by
    rw [he]
    simp only [Instr.storeAt, Instr.sureAddr, Sem.run_bind, Sem.run_pure, Result.andThen_ok, storeVar, run_sizeT hsz]
    rw [if_neg (by simp [hsize])]
    simp only [Sem.run_bind, Sem.run_pure, Result.andThen_ok, e1]
  simp only [execOp, hq, Sem.run_bind, this, Result.andThen_ok]; rfl
theorem store_prt {h h' : H} {ops : Array Oper} {i : Nat} {q : Oper} {tm : T V} (hi : ops[i]? = some q) (hg : q.guard = none) {t : Nat} {x y : Operand} (hq : q.op = .store t x y) (d : Does P q tm h (.tuple []) h') : Prt P ops i q tm h (.tuple []) h' := fun F n ρ a w nxt Q hF hn hr hk =>
  wpOp_wanted hF hi (b := true) (by simp [Region.wanted, hg]) (d.out (fun c e => by rw [hq] at e; cases e) F n ρ a w nxt Q hF hn.opds hr hk)
/-- apart from what is stored already -/
def Off (s : Nat × Nat × Nat × List V) (pl : List (Nat × Nat × Nat)) : Prop := ∀ p ∈ pl, s.2.1 ≠ p.1 ∨ s.2.2.1 + s.2.2.2.length ≤ p.2.1 ∨ p.2.1 + p.2.2 ≤ s.2.2.1
theorem tailK_true {all : List Oper} : ∀ {l : List (Nat × Oper)} {tm : T V} {h : H} {pl : List (Nat × Nat × Nat)} {k : H → Bool}, h.ok → tailK P all l tm h pl k = true →
    ∃ R h', k h' = true ∧ h'.ok ∧ Ext h h' ∧ SL h R h' ∧ R.map (·.1) = l.map (·.1) ∧ (∀ s ∈ R, StoreAt P all tm s ∧ Off s pl) ∧ R.Pairwise Apart2
  | [], tm, h, pl, k, hok, hk => ⟨[], h, hk, hok, Ext.refl _, rfl, rfl, fun s hs => (by cases hs), .nil⟩
  | (i, o) :: l, tm, h, pl, k, hok, hk => by
    unfold tailK at hk
    obtain ⟨q, hq, hk⟩ := og_true.1 hk
    rw [nth_eq] at hq
    cases hop : q.op with
    | store t x y =>
      rw [hop] at hk
      replace hk : opdK x tm (fun p => opdK y tm fun v => vPtr p fun b o => og (sizeT P t) fun sz => bg (apart b o sz pl) (storeK P t p v h fun h' => tailK P all l tm h' ((b, o, sz) :: pl) k)) = true := hk
      obtain ⟨p, hp, hk⟩ := opdK_true.1 hk
      obtain ⟨v, hv, hk⟩ := opdK_true.1 hk
      obtain ⟨b, of, rfl, hk⟩ := vPtr_true.1 hk
      obtain ⟨sz, hsz, hk⟩ := og_true.1 hk
      obtain ⟨hap, hk⟩ := bg_true.1 hk
      replace hk : (cellsV v v fun l' => og (sizeT P t) fun n => bg (Nat.beq n (len l' 0)) (storeRow b of l' h fun h' => tailK P all l tm h' ((b, of, sz) :: pl) k)) = true := hk
      rw [cellsV_eq] at hk
      obtain ⟨sz', hsz', hk⟩ := og_true.1 hk
      rw [hsz] at hsz'; cases hsz'
      obtain ⟨h1, hk⟩ := bg_true.1 hk
      rw [nbeq, len0, decide_eq_true_iff] at h1
      obtain ⟨h2, hk, hs⟩ := storeRow_SR hk
      obtain ⟨R, h', g1, g2, g3, g4, g5, g6, g7⟩ := tailK_true (hs.ok hok) hk
      have hext : Ext h h2 := by
        obtain ⟨_, _, _, _, _, _, _, _, _, rfl⟩ := hs
        exact Ext.put _ _ _
      refine ⟨(i, b, of, cells v) :: R, h', g1, g2, hext.trans g3, ⟨h2, hs, g4⟩, by simp [g5], fun s hs' => ?_, ?_⟩
      · rcases List.mem_cons.1 hs' with rfl | hs'
        · refine ⟨⟨q, t, x, y, v, hq, hop, hp, hv, rfl, by rw [hsz, h1]⟩, fun p hp' => ?_⟩
          have := List.all_eq_true.1 hap p hp'
          simp only [Bool.or_eq_true, Bool.not_eq_true'] at this
          rw [nbeq, nble, nble] at this
          simp only [decide_eq_true_iff, decide_eq_false_iff_not] at this
          rcases this with (h | h) | h
          · exact .inl h
          · exact .inr (.inl (by rw [← h1]; exact h))
          · exact .inr (.inr h)
        · exact ⟨(g6 s hs').1, fun p hp' => (g6 s hs').2 p (by simp [hp'])⟩
      · refine .cons (fun s hs' => ?_) g7
        have := (g6 s hs').2 (b, of, sz) (by simp)
        simp only [h1] at this
        rcases this with h | h | h
        · exact .inl (fun e => h e.symm)
        · exact .inr (.inr h)
        · exact .inr (.inl h)
    | _ => rw [hop] at hk; cases hk
end Go.Ev
/-
  ENGINE, PART 43: the last stores of a region: any order will do.
-/
namespace Go.Ev
variable {P : Program} {N : Nat}

structure RestAt (all : List Oper) (cl : List Nat) (its : List It) (j : Nat) (q : Oper) : Prop where
  guard : q.guard = none
  dst : q.dst = none
  rd : readOk all cl (cl.getD j 0) j q = true
  ed : edgesOk (cl.getD j 0) j q = true
  on : ∀ e ∈ q.after.toList, Region.binds .any e = true → ∃ it ∈ its, it.i = e.on
  its : ∀ it ∈ its, it.i ≠ j ∧ ∀ p, all[it.i]? = some p → isAct p.op = true → Nat.testBit (cl.getD j 0) it.i = true
theorem restOne_true {all : List Oper} {cl : List Nat} {its : List It} {j : Nat} {q : Oper} (h : restOne all cl its j q = true) : RestAt all cl its j q := by
  unfold restOne at h
  simp only [Bool.and_eq_true] at h
  obtain ⟨⟨⟨⟨⟨h1, h2⟩, h3⟩, h4⟩, h5⟩, h6⟩ := h
  refine ⟨by simpa using h1, by simpa using h2, h3, h4, fun e he hb => ?_, fun it hit => ?_⟩
  · have := List.all_eq_true.1 h5 e he
    rw [hb] at this
    simp only [Bool.not_true, Bool.false_or] at this
    obtain ⟨it, hit, h⟩ := List.any_eq_true.1 this
    rw [nbeq, decide_eq_true_iff] at h
    exact ⟨it, hit, h⟩
  · have := List.all_eq_true.1 h6 it hit
    rw [Bool.and_eq_true] at this
    obtain ⟨g1, g2⟩ := this
    rw [nbeq] at g1
    refine ⟨by simpa using g1, fun p hp ha => ?_⟩
    rw [hp] at g2
    simp only [ha, Bool.true_or, Bool.not_true, Bool.false_or] at g2
    exact g2
theorem restOk_true {all : List Oper} {cl : List Nat} {its : List It} : ∀ {r : List (Nat × Oper)}, restOk all cl its r = true → (∀ p ∈ r, ∃ q, all[p.1]? = some q ∧ RestAt all cl its p.1 q) ∧ (r.map (·.1)).Nodup
  | [], _ => ⟨fun p hp => (by cases hp), .nil⟩
  | p :: r, h => by
    unfold restOk at h
    simp only [Bool.and_eq_true] at h
    obtain ⟨⟨h1, h2⟩, h3⟩ := h
    obtain ⟨g1, g2⟩ := restOk_true h3
    refine ⟨fun p' hp => ?_, ?_⟩
    · rcases List.mem_cons.1 hp with rfl | hp
      · split at h1
        · rename_i q hq; exact ⟨q, hq, restOne_true h1⟩
        · cases h1
      · exact g1 p' hp
    · simp only [List.map_cons, List.nodup_cons]
      refine ⟨fun hm => ?_, g2⟩
      obtain ⟨q, hq, e⟩ := List.mem_map.1 hm
      have := List.all_eq_true.1 h2 q hq
      rw [nbeq] at this
      simp [e] at this
structure TInv (P : Program) (ops : Array Oper) (cl : List Nat) (its : List It) (tm0 tm' : T V) (hist : Hist) (R : SLi) (hS h' : H) : Prop where
  hE : HistE cl hist
  full : ∀ j, j < ops.size → (∃ p ∈ hist, p.1 = j) ∨ ∃ s ∈ R, s.1 = j
  st : ∀ s ∈ R, StoreAt P ops.toList tm' s ∧ (∃ q, ops.toList[s.1]? = some q ∧ RestAt ops.toList cl its s.1 q) ∧ ∀ p ∈ hist, p.1 ≠ s.1
  nd : (R.map (·.1)).Nodup
  ap : R.Pairwise Apart2
  sl : ∃ h1, SL hS R h1 ∧ HEq' h' h1
  tm : tm' = puts (fun _ => true) hist tm0
theorem nodup_mid {α : Type} {a b : List α} {x : α} (h : (a ++ x :: b).Nodup) : (a ++ b).Nodup ∧ x ∉ a ∧ x ∉ b := by
  rw [List.nodup_append] at h
  obtain ⟨h1, h2, h3⟩ := h
  rw [List.nodup_cons] at h2
  refine ⟨List.nodup_append.2 ⟨h1, h2.2, fun y hy z hz => h3 y hy z (by simp [hz])⟩, fun hx => h3 x hx x (by simp) rfl, h2.1⟩
theorem pairwise_mid {α : Type} {r : α → α → Prop} {a b : List α} {x : α} (h : (a ++ x :: b).Pairwise r) : (a ++ b).Pairwise r ∧ ∀ y ∈ a, r y x := by
  rw [List.pairwise_append] at h
  obtain ⟨h1, h2, h3⟩ := h
  rw [List.pairwise_cons] at h2
  exact ⟨List.pairwise_append.2 ⟨h1, h2.2, fun y hy z hz => h3 y hy z (by simp [hz])⟩, fun y hy => h3 y hy x (by simp)⟩
theorem tail_stage {F : Fence} (hF : FW F) {ops : Array Oper} {cl : List Nat} {nbOf : Nat → Option Nat} {tm0 tm' : T V} {m : List Nat} {h' : H} {fl : List (Nat × (H → Bool))} {ρ0 : Ren} {h0 : H} {w0 : World} {its : List It}
    (hcl : closOk ops.toList cl = true) (hbnd : ∀ o ∈ ops.toList, opBnd N P.globals.size o = true) {rest : List Nat} (hfl : ∀ f ∈ fl, ∀ j ∈ rest, Nat.testBit (cl.getD j 0) f.1 = true) {n : Nat} {Q : Exit → Act → World → Prop}
    (hQ : ∀ hist hS listed ρ a w, DInv P N F ops cl hist nbOf tm0 m hS fl listed ρ0 h0 w0 ρ a w → tm' = puts (fun _ => true) hist tm0 → HEq' h' hS → (∀ j, j < ops.size → lst listed j = true) → Q .normal a w) :
    ∀ fuel hist hS R listed ρ a w, DInv P N F ops cl hist nbOf tm0 m hS fl listed ρ0 h0 w0 ρ a w → TInv P ops cl its tm0 tm' hist R hS h' → (∀ s ∈ R, s.1 ∈ rest) → unl listed ops.size = fuel → wpAnyIn F n P .any ops Q fuel listed a w := by
  intro fuel
  have fin : ∀ hist hS R listed ρ a w, DInv P N F ops cl hist nbOf tm0 m hS fl listed ρ0 h0 w0 ρ a w → TInv P ops cl its tm0 tm' hist R hS h' → (∀ j, j < ops.size → lst listed j = true) → Q .normal a w := fun hist hS R listed ρ a w D T hall => by
    have hR : R = [] := by
      cases R with
      | nil => rfl
      | cons s R =>
        obtain ⟨_, ⟨q, hq, _⟩, hn⟩ := T.st s (by simp)
        have hlt : s.1 < ops.size := by have := (List.getElem?_eq_some_iff.1 hq).1; simpa using this
        obtain ⟨p, hp, e⟩ := D.sub s.1 (hall _ hlt)
        exact absurd e (hn p hp)
    subst hR
    obtain ⟨h1, s1, e1⟩ := T.sl
    simp only [SL] at s1
    subst s1
    exact hQ hist _ listed ρ a w D T.tm e1 hall
  induction fuel with
  | zero =>
    intro hist hS R listed ρ a w D T hRr hu
    refine ⟨?_, fin hist hS R listed ρ a w D T fun j hj => unl_zero hu hj⟩
    cases hr : Region.ready .any ops listed with
    | nil => rfl
    | cons j l =>
      obtain ⟨q, g1, g2, g3⟩ := (ready_mem D.size).1 (show j ∈ Region.ready .any ops listed by rw [hr]; simp)
      have hjlt : j < ops.size := by have := (List.getElem?_eq_some_iff.1 g1).1; simpa using this
      rw [unl_zero hu hjlt] at g2; cases g2
  | succ fuel ih =>
    intro hist hS R listed ρ a w D T hRr hu
    refine ⟨fun hr => ?_, fun j hj => ?_⟩
    · have none : ∀ j o, ops.toList[j]? = some o → lst listed j = false → (∀ e ∈ o.after.toList, Region.binds .any e = true → lst listed e.on = true) → False := fun j o g1 g2 g3 => by
        have := (ready_mem D.size).2 ⟨o, g1, g2, g3⟩
        rw [hr] at this; cases this
      have hh : ∀ p ∈ hist, lst listed p.1 = true := fun p hp => by
        cases hl : lst listed p.1 with
        | true => rfl
        | false =>
          obtain ⟨j, q, g1, g2, g3⟩ := first_ready D.hok T.hE [] hist rfl (fun p hp => by cases hp) ⟨p, hp, hl⟩
          exact (none j q g1 g2 g3).elim
      refine fin hist hS R listed ρ a w D T fun j hj => ?_
      rcases T.full j hj with ⟨p, hp, rfl⟩ | ⟨s, hs, rfl⟩
      · exact hh p hp
      · cases hl : lst listed s.1 with
        | true => rfl
        | false =>
          obtain ⟨_, ⟨q, hq, ra⟩, hn⟩ := T.st s hs
          refine (none s.1 q hq hl fun e he hb => ?_).elim
          obtain ⟨it, hit, e'⟩ := ra.on e he hb
          have hlt : e.on < ops.size := by have := (edgesOk_true ra.ed he hb).1; omega
          rcases T.full e.on hlt with ⟨p, hp, e2⟩ | ⟨s', hs', e2⟩
          · rw [← e2]; exact hh p hp
          · obtain ⟨_, ⟨q', hq', ra'⟩, _⟩ := T.st s' hs'
            exact absurd (e'.trans e2.symm) (ra'.its it hit).1
    · obtain ⟨q, g1, g2, g3⟩ := (ready_mem D.size).1 hj
      have hjlt : j < ops.size := by have := (List.getElem?_eq_some_iff.1 g1).1; simpa using this
      have hqb := hbnd q (List.mem_of_getElem? g1)
      have hun : unl (listed.setIfInBounds j true) ops.size = fuel := by have := unl_set D.size hjlt g2; omega
      rcases T.full j hjlt with ⟨p, hp', rfl⟩ | ⟨s, hs, rfl⟩
      · obtain ⟨pre, post, e⟩ := List.append_of_mem hp'
        have hq : q = p.2.1 := by have := D.hok.of_mem hp'; rw [g1] at this; exact (Option.some.inj this)
        subst hq
        exact D.exec hcl (pre := pre) (post := post) (v := p.2.2) e g2 g3 hqb hF fun ρ' a' w' D' => ih hist hS R _ ρ' a' w' D' T hRr hun
      · obtain ⟨sa, ⟨q', hq', ra⟩, hn⟩ := T.st s hs
        rw [g1] at hq'; cases hq'
        obtain ⟨pre, post, e⟩ := List.append_of_mem hs
        subst e
        obtain ⟨h1, s1, e1⟩ := T.sl
        obtain ⟨ap1, ap2⟩ := pairwise_mid T.ap
        obtain ⟨hn1, g, s2, s3, e2⟩ := SL.first s1 ap2
        obtain ⟨q'', t, x, y, v, k1, k2, k3, k4, k5, k6⟩ := sa
        rw [g1] at k1; cases k1
        have k1' : ops[s.1]? = some q := by simpa using g1
        have hclr := clos_listed hcl D.dc s.1 q g1 g3
        have hh : HistOk ops.toList cl (hist ++ [(s.1, q, .tuple [])]) := D.hok.snoc g1 (fun k hk hb => D.sub k (hclr k hk hb)) ra.rd hn
        have hE' : HistE cl (hist ++ [(s.1, q, .tuple [])]) := fun p hp => by
          rcases List.mem_append.1 hp with hp | hp
          · exact T.hE p hp
          · simp at hp; subst hp; exact ra.ed
        have hprt : Prt P ops s.1 q (puts (fun _ => true) hist tm0) hS (.tuple []) hn1 := by
          rw [← T.tm]
          refine store_prt k1' ra.guard k2 (store_does (t := t) (x := x) (y := y) (v := v) (by rw [k5]; exact s2) k2 k3 k4 k6 (by rw [k5]))
        refine D.act hcl hh (s2.ok D.ok) g3 hqb hprt (fl1 := fl) (fun f hf => .inl (hfl f hf s.1 (hRr s (by simp)))) hF fun ρ' a' w' D' => ?_
        have hnd := T.nd
        rw [List.map_append, List.map_cons] at hnd
        obtain ⟨nd1, nd2, nd3⟩ := nodup_mid hnd
        refine ih _ hn1 (pre ++ post) _ ρ' a' w' D' ⟨hE', fun j hj => ?_, fun s' hs' => ?_, by rw [List.map_append]; exact nd1, ap1, ⟨g, s3, e1.trans e2⟩, ?_⟩ (fun s' hs' => hRr s' (by
          rcases List.mem_append.1 hs' with h | h <;> simp [h])) hun
        · rcases T.full j hj with ⟨p, hp, rfl⟩ | ⟨s', hs', rfl⟩
          · exact .inl ⟨p, by simp [hp], rfl⟩
          · rcases List.mem_append.1 hs' with h | h
            · exact .inr ⟨s', by simp [h], rfl⟩
            · rcases List.mem_cons.1 h with rfl | h
              · exact .inl ⟨(s'.1, q, .tuple []), by simp, rfl⟩
              · exact .inr ⟨s', by simp [h], rfl⟩
        · have hm : s' ∈ pre ++ s :: post := by rcases List.mem_append.1 hs' with h | h <;> simp [h]
          obtain ⟨m1, m2, m3⟩ := T.st s' hm
          refine ⟨m1, m2, fun p hp => ?_⟩
          rcases List.mem_append.1 hp with hp | hp
          · exact m3 p hp
          · simp at hp; subst hp
            simp only
            intro e
            rcases List.mem_append.1 hs' with h | h
            · exact nd2 (by rw [e]; exact List.mem_map_of_mem h)
            · exact nd3 (by rw [e]; exact List.mem_map_of_mem h)
        · rw [puts_snoc, if_pos rfl, ra.dst]; exact T.tm
end Go.Ev
/-
  ENGINE, PART 34: the sum: what the evaluator answers is what the machine does.
-/
namespace Go.Ev
variable {P : Program}

def DrawsOk (P : Program) (sf : Self) : Prop := ∀ (ops : Array Oper) (tm : T V) (h : H) (k : T V → H → Bool), h.ok → regionK P sf ops.toList tm h k = true → ∃ tm' h', k tm' h' = true ∧ h'.ok ∧ Ext h h' ∧ ∀ N, (∀ o ∈ ops.toList, opBnd N P.globals.size o = true) →
  ∀ (id : Nat) (F : Fence) (n : Nat) (ρ : Ren) (m : List Nat) (a : Act) (w : World) (Q : Exit → Act → World → Prop), FW F → St P N F ρ tm h m a w → (∀ ρ' a' w', Aft P ρ h w h' ρ' w' → St P N F ρ' tm' h' m a' w' → Q .normal a' w') → (Code.region id ops true).wpIn F n P Q a w
def CodeR (P : Program) (N : Nat) (c : Code) (tm : T V) (h : H) (m : List Nat) (x : X) (tm' : T V) (h' : H) (m' : List Nat) : Prop := match c with
  | .loop d => ∃ j, Loops P N d j tm h m x tm' h' m'
  | c => CodeOk P N c tm h m x tm' h' m'
theorem CodeR.ok {N : Nat} {c : Code} {tm tm' : T V} {h h' : H} {m m' : List Nat} {x : X} (k : CodeR P N c tm h m x tm' h' m') : CodeOk P N c tm h m x tm' h' m' := by
  cases c with
  | loop d => obtain ⟨j, hj⟩ := k; exact hj.ok
  | _ => exact k
def CodesR (P : Program) (sf : Self) : Prop := ∀ (c : Code) (tm : T V) (h : H) (m : List Nat) (k : KX), h.ok → sf.code c tm h m k = true → ∃ x tm' h' m', k x tm' h' m' = true ∧ h'.ok ∧ Ext h h' ∧ ∀ N, codeBnd N P.globals.size c = true → CodeR P N c tm h m x tm' h' m'
theorem CodesR.ok {sf : Self} (h : CodesR P sf) : CodesOk P sf := fun c tm hh m k hok hk => let ⟨x, tm', h', m', h1, h2, h3, h4⟩ := h c tm hh m k hok hk; ⟨x, tm', h', m', h1, h2, h3, fun N hN => (h4 N hN).ok⟩
def ScopesOk (P : Program) (sf : Self) : Prop := ∀ (body cur : Code) (tm : T V) (h : H) (m : List Nat) (k : KX), h.ok → sf.scope body cur tm h m k = true → ∃ x tm' h' m', k x tm' h' m' = true ∧ h'.ok ∧ Ext h h' ∧
  ∀ N, codeBnd N P.globals.size body = true → codeBnd N P.globals.size cur = true → Scopes P N body cur tm h m x tm' h' m'
/-- oracles -/
def OrcOk (P : Program) (orc : Orc) : Prop := ∀ f g, orc.get f = some g → ∀ args (h : H) k, h.ok → g args h k = true → ∃ v h', k v h' = true ∧ h'.ok ∧ Ext h h' ∧ CallOk P f args h v h'
theorem findLabel_bnd {n g : Nat} : ∀ {c : Code} {l : Nat} {rest : Code}, findLabel c l = some rest → codeBnd n g c = true → codeBnd n g rest = true
  | .seq a b, l, rest, h, hb => by
    have hb' : (codeBnd n g a && codeBnd n g b) = true := hb
    rw [Bool.and_eq_true] at hb'
    unfold findLabel at h
    split at h
    · rename_i r hr
      cases h
      show (codeBnd n g r && codeBnd n g b) = true
      rw [findLabel_bnd hr hb'.1, hb'.2]; rfl
    · exact findLabel_bnd h hb'.2
  | .label l', l, rest, h, hb => by
    unfold findLabel at h
    split at h
    · cases h; rfl
    · cases h
  | .skip, l, rest, h, _ => by cases h
  | .region _ _ _, l, rest, h, _ => by cases h
  | .cond _ _ _, l, rest, h, _ => by cases h
  | .block _ _, l, rest, h, _ => by cases h
  | .loop _, l, rest, h, _ => by cases h
  | .rangeFunc _ _ _ _, l, rest, h, _ => by cases h
  | .exit _, l, rest, h, _ => by cases h
  | .scope _, l, rest, h, _ => by cases h
  | .goto _, l, rest, h, _ => by cases h
  | .ret, l, rest, h, _ => by cases h
  | .refuse _, l, rest, h, _ => by cases h
theorem scope_step {sf : Self} (hc : CodesR P sf) (hs : ScopesOk P sf) {body cur : Code} {tm : T V} {h : H} {m : List Nat} {k : KX} (hok : h.ok) (hk : stepScope sf body cur tm h m k = true) : ∃ x tm' h' m', k x tm' h' m' = true ∧ h'.ok ∧ Ext h h' ∧
    ∀ N, codeBnd N P.globals.size body = true → codeBnd N P.globals.size cur = true → Scopes P N body cur tm h m x tm' h' m' := by
  obtain ⟨x, tm1, h1, m1, g1, g2, g3, g4⟩ := hc cur tm h m _ hok hk
  rcases elim_true g1 with ⟨rfl, g⟩ | ⟨i, rfl, g⟩ | ⟨l, rfl, g⟩ | ⟨rfl, g⟩
  · exact ⟨_, tm1, h1, m1, g, g2, g3, fun N hb hcur => .stop (fun l e => by cases e) (g4 N hcur).ok⟩
  · exact ⟨_, tm1, h1, m1, g, g2, g3, fun N hb hcur => .stop (fun l e => by cases e) (g4 N hcur).ok⟩
  · cases hl : findLabel body l with
    | none =>
      rw [hl] at g
      exact ⟨_, tm1, h1, m1, g, g2, g3, fun N hb hcur => .stop (fun l' e => by cases e; exact hl) (g4 N hcur).ok⟩
    | some rest =>
      rw [hl] at g
      obtain ⟨x, tm2, h2, m2, e1, e2, e3, e4⟩ := hs body rest tm1 h1 m1 k g2 g
      exact ⟨x, tm2, h2, m2, e1, e2, g3.trans e3, fun N hb hcur => .jump (g4 N hcur).ok hl (e4 N hb (findLabel_bnd hl hb))⟩
  · exact ⟨_, tm1, h1, m1, g, g2, g3, fun N hb hcur => .stop (fun l e => by cases e) (g4 N hcur).ok⟩
theorem code_step {sf : Self} (hs : SelfOk P 0 sf) (hc : CodesR P sf) (hsc : ScopesOk P sf) (hN : NoNum P) (hd : DrawsOk P sf) {c : Code} {tm : T V} {h : H} {m : List Nat} {k : KX} (hok : h.ok) (hk : stepCode P c sf tm h m k = true) :
    ∃ x tm' h' m', k x tm' h' m' = true ∧ h'.ok ∧ Ext h h' ∧ ∀ N, codeBnd N P.globals.size c = true → CodeR P N c tm h m x tm' h' m' := by
  cases c with
  | skip => exact ⟨.normal, tm, h, m, hk, hok, Ext.refl _, fun N _ => CodeOk.here .normal fun F n a w Q hq => wpIn_skip hq⟩
  | label l => exact ⟨.normal, tm, h, m, hk, hok, Ext.refl _, fun N _ => CodeOk.here .normal fun F n a w Q hq => wpIn_label hq⟩
  | exit i => exact ⟨.exit i, tm, h, m, hk, hok, Ext.refl _, fun N _ => CodeOk.here (.exit i) fun F n a w Q hq => wpIn_exit hq⟩
  | goto l => exact ⟨.goto l, tm, h, m, hk, hok, Ext.refl _, fun N _ => CodeOk.here (.goto l) fun F n a w Q hq => wpIn_goto hq⟩
  | ret => exact ⟨.ret, tm, h, m, hk, hok, Ext.refl _, fun N _ => CodeOk.here .ret fun F n a w Q hq => wpIn_ret hq⟩
  | refuse s => cases hk
  | region id ops dr =>
    cases dr with
    | false =>
      obtain ⟨tm', h', g1, g2, g3, g4⟩ := seqK_true hs (ops := ops) (l := ops.toList) (i := 0) (fun j => by simp) hok (show seqK P sf ops.toList ops.toList tm h (fun tm' h' => k .normal tm' h' m) = true from hk)
      refine ⟨.normal, tm', h', m, g1, g2, g3, fun N hN' => ?_⟩
      have hb : ∀ o ∈ ops.toList, opBnd N P.globals.size o = true := List.all_eq_true.1 hN'
      intro F n ρ a w Q hF st hq
      refine wpIn_region ?_
      have := g4 N hb F n ρ m a w Q hF st fun ρ' a' w' haft st' => hq _ ρ' a' w' .normal haft st'
      rw [← List.range_eq_range'] at this
      simpa using this
    | true =>
      obtain ⟨tm', h', g1, g2, g3, g4⟩ := hd ops tm h _ hok (show regionK P sf ops.toList tm h (fun tm' h' => k .normal tm' h' m) = true from hk)
      refine ⟨.normal, tm', h', m, g1, g2, g3, fun N hN' F n ρ a w Q hF st hq => ?_⟩
      exact g4 N (List.all_eq_true.1 hN') id F n ρ m a w Q hF st fun ρ' a' w' haft st' => hq _ ρ' a' w' .normal haft st'
  | seq a b =>
    obtain ⟨x, tm1, h1, m1, g1, g2, g3, g4⟩ := hc a tm h m _ hok hk
    have bnd : ∀ N, codeBnd N P.globals.size (.seq a b) = true → codeBnd N P.globals.size a = true ∧ codeBnd N P.globals.size b = true := fun N hb => by
      have hb' : (codeBnd N P.globals.size a && codeBnd N P.globals.size b) = true := hb
      rwa [Bool.and_eq_true] at hb'
    rcases elim_true g1 with ⟨rfl, g⟩ | ⟨i, rfl, g⟩ | ⟨l, rfl, g⟩ | ⟨rfl, g⟩
    · obtain ⟨x, tm2, h2, m2, e1, e2, e3, e4⟩ := hc b tm1 h1 m1 k g2 g
      exact ⟨x, tm2, h2, m2, e1, e2, g3.trans e3, fun N hb => CodeOk.seq (g4 N (bnd N hb).1).ok (e4 N (bnd N hb).2).ok⟩
    · exact ⟨_, tm1, h1, m1, g, g2, g3, fun N hb => CodeOk.seqStop (by simp) (g4 N (bnd N hb).1).ok⟩
    · exact ⟨_, tm1, h1, m1, g, g2, g3, fun N hb => CodeOk.seqStop (by simp) (g4 N (bnd N hb).1).ok⟩
    · exact ⟨_, tm1, h1, m1, g, g2, g3, fun N hb => CodeOk.seqStop (by simp) (g4 N (bnd N hb).1).ok⟩
  | cond c a b =>
    obtain ⟨v, hv, hk1⟩ := opdK_true.1 (show opdK c tm (fun v => vBool v fun t => bsel t (sf.code a tm h m k) (sf.code b tm h m k)) = true from hk)
    obtain ⟨t, rfl, hk2⟩ := vBool_true.1 hk1
    have hcg : ∀ g, c ≠ .global g := fun g e => by subst e; cases hv
    have bnd : ∀ N, codeBnd N P.globals.size (.cond c a b) = true → codeBnd N P.globals.size a = true ∧ codeBnd N P.globals.size b = true := fun N hb => by
      have hb' : (codeBnd N P.globals.size a && codeBnd N P.globals.size b) = true := hb
      rwa [Bool.and_eq_true] at hb'
    cases t with
    | true =>
      obtain ⟨x, tm1, h1, m1, g1, g2, g3, g4⟩ := hc a tm h m k hok hk2
      exact ⟨x, tm1, h1, m1, g1, g2, g3, fun N hb => CodeOk.cond (t := true) hv hcg (g4 N (bnd N hb).1).ok⟩
    | false =>
      obtain ⟨x, tm1, h1, m1, g1, g2, g3, g4⟩ := hc b tm h m k hok hk2
      exact ⟨x, tm1, h1, m1, g1, g2, g3, fun N hb => CodeOk.cond (t := false) hv hcg (g4 N (bnd N hb).2).ok⟩
  | block id c =>
    obtain ⟨x, tm1, h1, m1, g1, g2, g3, g4⟩ := hc c tm h m _ hok hk
    rcases elim_true g1 with ⟨rfl, g⟩ | ⟨i, rfl, g⟩ | ⟨l, rfl, g⟩ | ⟨rfl, g⟩
    · exact ⟨.normal, tm1, h1, m1, g, g2, g3, fun N hb => CodeOk.block (g4 N hb).ok rfl⟩
    · rw [bsel_eq, nbeq] at g
      by_cases hi : i = id
      · rw [if_pos (by simpa using hi)] at g
        exact ⟨.normal, tm1, h1, m1, g, g2, g3, fun N hb => CodeOk.block (g4 N hb).ok (by simp [hi])⟩
      · rw [if_neg (by simpa using hi)] at g
        exact ⟨.exit i, tm1, h1, m1, g, g2, g3, fun N hb => CodeOk.block (g4 N hb).ok (by simp [hi])⟩
    · exact ⟨.goto l, tm1, h1, m1, g, g2, g3, fun N hb => CodeOk.block (g4 N hb).ok rfl⟩
    · exact ⟨.ret, tm1, h1, m1, g, g2, g3, fun N hb => CodeOk.block (g4 N hb).ok rfl⟩
  | loop c =>
    obtain ⟨x, tm1, h1, m1, g1, g2, g3, g4⟩ := hc c tm h m _ hok hk
    rcases elim_true g1 with ⟨rfl, g⟩ | ⟨i, rfl, g⟩ | ⟨l, rfl, g⟩ | ⟨rfl, g⟩
    · obtain ⟨x, tm2, h2, m2, e1, e2, e3, e4⟩ := hc (.loop c) tm1 h1 m1 k g2 g
      refine ⟨x, tm2, h2, m2, e1, e2, g3.trans e3, fun N hb => ?_⟩
      obtain ⟨j, hj⟩ := e4 N hb
      exact ⟨j + 1, .step (g4 N hb).ok hj⟩
    · exact ⟨_, tm1, h1, m1, g, g2, g3, fun N hb => ⟨0, .stop (by simp) (g4 N hb).ok⟩⟩
    · exact ⟨_, tm1, h1, m1, g, g2, g3, fun N hb => ⟨0, .stop (by simp) (g4 N hb).ok⟩⟩
    · exact ⟨_, tm1, h1, m1, g, g2, g3, fun N hb => ⟨0, .stop (by simp) (g4 N hb).ok⟩⟩
  | scope c =>
    obtain ⟨x, tm1, h1, m1, g1, g2, g3, g4⟩ := hsc c c tm h m k hok hk
    exact ⟨x, tm1, h1, m1, g1, g2, g3, fun N hb => (g4 N hb hb).ok⟩
  | rangeFunc g ps a b =>
    obtain ⟨x, tm1, h1, m1, g1, g2, g3, g4⟩ := cRange_ok hs hc.ok hN hok (show cRange P g ps a b sf tm h m k = true from hk)
    exact ⟨x, tm1, h1, m1, g1, g2, g3, fun N hb => g4 N hb⟩
theorem run_ok {orc : Orc} (horc : OrcOk P orc) (hN : NoNum P) (hd : ∀ sf, SelfOk P 0 sf → DrawsOk P sf) : ∀ n, SelfOk P 0 (run P orc n) ∧ CodesR P (run P orc n) ∧ ScopesOk P (run P orc n)
  | 0 => ⟨⟨fun _ _ _ _ _ h => (by cases h), fun _ _ _ _ _ h => (by cases h)⟩, fun _ _ _ _ _ _ h => (by cases h), fun _ _ _ _ _ _ _ h => (by cases h)⟩
  | n + 1 => by
    obtain ⟨hs, hc, hsc⟩ := run_ok horc hN hd n
    have e : run P orc (n + 1) = ⟨fun c => stepCode P c (run P orc n), stepCall P orc (run P orc n), stepRound P (run P orc n), stepScope (run P orc n)⟩ := rfl
    rw [e]
    refine ⟨⟨fun f args h k hok hk => ?_, fun l args h k hok hk => round_ok hc.ok hok hk⟩, fun c tm h m k hok hk => code_step hs hc hsc hN (hd _ hs) hok hk, fun body cur tm h m k hok hk => scope_step hc hsc hok hk⟩
    have hk' : Option.rec (motive := fun _ => Bool) (og (P.funcs[f]?) fun fn => bodyK P (run P orc n) fn args h k) (fun g => g args h k) (orc.get f) = true := hk
    cases ho : orc.get f with
    | some g => rw [ho] at hk'; exact horc f g ho args h k hok hk'
    | none =>
      rw [ho] at hk'
      obtain ⟨fn, hf, hk2⟩ := og_true.1 (show og (P.funcs[f]?) (fun fn => bodyK P (run P orc n) fn args h k) = true from hk')
      obtain ⟨v, h', g1, g2, g3, g4⟩ := body_ok hc.ok hN hf hok hk2
      exact ⟨v, h', g1, g2, g3, .inl g4⟩
end Go.Ev
/-
  ENGINE, PART 44: regions that draw their order: the sum.
-/
namespace Go.Ev
variable {P : Program}

theorem Aft.drawn {ρ : Ren} {h : H} {w : World} (hr : HR P ρ h w) : Aft P ρ h w h ρ { w with drawn := w.drawn + 1 } :=
  ⟨⟨.refl _, Nat.le_refl _, Nat.le_refl _, fun _ _ _ => rfl, fun b _ s wl o hr ho hf _ => ⟨b, s, wl, o, hr, ho, hf⟩, rfl, rfl, rfl⟩, Nw.refl _ _, ⟨hr.dom, hr.obj, hr.inj, hr.glob⟩⟩
theorem lst_replicate {n i : Nat} : lst (Array.replicate n false) i = false := by
  unfold lst
  simp only [Array.getD_eq_getD_getElem?, Array.getElem?_replicate]
  split <;> rfl
theorem unl_replicate {n : Nat} : unl (Array.replicate n false) n = n := by
  unfold unl
  rw [List.filter_eq_self.2 (fun i _ => by rw [lst_replicate]; rfl)]
  simp
theorem regionK_split {sf : Self} {ops : Array Oper} (hs : SelfOk P 0 sf) {tm : T V} {h : H} {k : T V → H → Bool} (hok : h.ok) (hk : regionK P sf ops.toList tm h k = true) :
    drawOk ops.toList (clos ops.toList) (plan ops.toList).1 (plan ops.toList).2 = true ∧ ∃ tm' h1 h' fl R, k tm' h' = true ∧ h'.ok ∧ Ext h h' ∧ Tr P ops (plan ops.toList).1 tm h [] tm' h1 fl ∧
      SL h1 R h' ∧ R.map (·.1) = (plan ops.toList).2.map (·.1) ∧ (∀ s ∈ R, StoreAt P ops.toList tm' s) ∧ R.Pairwise Apart2 ∧ ((plan ops.toList).2 = [] ∨ tailOk (clos ops.toList) (plan ops.toList).2 fl = true) := by
  unfold regionK at hk
  obtain ⟨h1, hk⟩ := bg_true.1 hk
  refine ⟨h1, ?_⟩
  obtain ⟨tm', h1, fl, hk, g2, g3, g4⟩ := drawK_true hs hok hk
  generalize (plan ops.toList).2 = rest at hk ⊢
  cases rest with
  | nil => exact ⟨tm', h1, h1, fl, [], hk, g2, g3, g4, rfl, rfl, fun s hs => (by cases hs), .nil, .inl rfl⟩
  | cons p r =>
    obtain ⟨k1, hk⟩ := bg_true.1 hk
    obtain ⟨R, h', e1, e2, e3, e4, e5, e6, e7⟩ := tailK_true g2 hk
    exact ⟨tm', h1, h', fl, R, e1, e2, g3.trans e3, g4, e4, e5, fun s hs => (e6 s hs).1, e7, .inr k1⟩
theorem draws_ok (hm : P.follows .mixedOrders = true) {sf : Self} (hs : SelfOk P 0 sf) : DrawsOk P sf := by
  intro ops tm h k hok hk
  obtain ⟨hd, tm', h1, h', fl, R, g1, g2, g3, tr, sl, hR, hst, hap, htl⟩ := regionK_split hs hok hk
  refine ⟨tm', h', g1, g2, g3, fun N hb id F n ρ m a w Q hF st hq => ?_⟩
  generalize hclE : clos ops.toList = cl at hd htl
  generalize (plan ops.toList).1 = its at hd tr
  generalize (plan ops.toList).2 = rest at hd hR htl
  unfold drawOk at hd
  simp only [Bool.and_eq_true] at hd
  obtain ⟨⟨⟨hcl, hord⟩, hrest⟩, hfull⟩ := hd
  obtain ⟨hr1, hr2⟩ := restOk_true hrest
  refine wpIn_region_any hm ?_
  have D0 : DInv P N F ops cl [] (fun _ => none) tm m h [] (Array.replicate ops.size false) ρ h w ρ a { w with drawn := w.drawn + 1 } :=
    ⟨by simp, HistOk.nil, fun i hi => (by rw [lst_replicate] at hi; cases hi), fun i o _ hi => (by rw [lst_replicate] at hi; cases hi), fun pre i o v post he => (by cases pre <;> cases he),
      fun i j b hi => (by cases hi), fun i b hi => (by cases hi), fun i b hi => (by cases hi), hok, Aft.drawn st.hr, st.tr, st.df, st.size, st.round⟩
  have full' : ∀ j, j < ops.size → (∃ it ∈ its, it.i = j) ∨ j ∈ rest.map (·.1) := fun j hj => by
    have := List.all_eq_true.1 hfull j (List.mem_range.2 (by simpa using hj))
    rw [Bool.or_eq_true] at this
    rcases this with h | h
    · obtain ⟨it, hit, e⟩ := List.any_eq_true.1 h
      rw [nbeq, decide_eq_true_iff] at e
      exact .inl ⟨it, hit, e⟩
    · obtain ⟨p, hp, e⟩ := List.any_eq_true.1 h
      rw [nbeq, decide_eq_true_iff] at e
      exact .inr (by rw [← e]; exact List.mem_map_of_mem hp)
  refine draw_main hF hcl hb (rest := rest.map (·.1)) (G := fun i => ∃ it ∈ its, it.i = i) tr ?_ (fun it hit => ⟨it, hit, rfl⟩) ?_ (hist := []) (nbOf := fun _ => none) (done := 0) (acts := 0) (fun p hp => (by cases hp)) rfl ⟨fun j => (by simp), fun p hp => (by cases hp)⟩ HistOk.nil (fun p hp => (by cases hp)) hord
    (fun j hj => by rcases full' j hj with g | g; exact .inr (.inl g); exact .inr (.inr g)) ops.size _ ρ a _ D0 unl_replicate
  · intro j hj it hit q hq ha
    obtain ⟨p, hp, rfl⟩ := List.mem_map.1 hj
    obtain ⟨q', _, ra⟩ := hr1 p hp
    exact (ra.its it hit).2 q hq ha
  · intro hist nbOf hG htm hh hE hfull2 fuel listed ρ2 a2 w2 D hu
    refine tail_stage hF hcl hb (rest := rest.map (·.1)) (h' := h') (tm' := tm') (its := its) (fun f hf j hj => ?_) ?_ fuel hist h1 R listed ρ2 a2 w2 D ⟨hE, fun j hj => ?_, fun s hs => ⟨hst s hs, ?_⟩, by rw [hR]; exact hr2, hap, ⟨h', sl, .refl _⟩, htm⟩ (fun s hs => by rw [← hR]; exact List.mem_map_of_mem hs) hu
    · obtain ⟨p, hp, rfl⟩ := List.mem_map.1 hj
      rcases htl with rfl | htl
      · cases hp
      · exact List.all_eq_true.1 (List.all_eq_true.1 htl f hf) p hp
    · intro hist hS listed ρ' a' w' D' htm' he hall
      have haft := D'.aft.heq he.symm
      refine hq ρ' a' w' haft ⟨haft.hr, D'.tr.teq fun t => ?_, D'.df, D'.sizeN, D'.round⟩
      rw [htm']
      refine puts_same hist _ _ rfl fun p hp _ => ?_
      have := (List.getElem?_eq_some_iff.1 (D'.hok.of_mem hp)).1
      rw [hall p.1 (by simpa using this)]
    · rcases hfull2 j hj with g | g
      · exact .inl g
      · rw [← hR] at g
        obtain ⟨s, hs, e⟩ := List.mem_map.1 g
        exact .inr ⟨s, hs, e⟩
    · have hm' : s.1 ∈ rest.map (·.1) := by rw [← hR]; exact List.mem_map_of_mem hs
      obtain ⟨p, hp, e⟩ := List.mem_map.1 hm'
      obtain ⟨q, hq', ra⟩ := hr1 p hp
      rw [e] at hq' ra
      refine ⟨⟨q, hq', ra⟩, fun p' hp' e' => ?_⟩
      obtain ⟨it, hit, e2⟩ := hG p' hp'
      exact (ra.its it hit).1 (e2.trans e')
/-- what the evaluator answers is what the machine does -/
theorem engine {orc : Orc} (horc : OrcOk P orc) (hN : NoNum P) (hm : P.follows .mixedOrders = true) (n : Nat) : SelfOk P 0 (run P orc n) := (run_ok horc hN (fun _ hs => draws_ok hm hs) n).1
end Go.Ev
