/-
  AN ENGINE: a verified evaluator of the model's code on an abstract heap (part 8 of 8). Its laws are proved here, from the model's own; no condition.
-/
import Derived.Test.YtjeagjpfgilkdaaGreatDoorE6
import Derived.Lib.LaidTab
import Derived.Handed
import Derived.ChangeShapes
import Derived.Lay
import Derived.MakeChecks
set_option linter.unusedVariables false
set_option linter.unusedSimpArgs false
/-
  ENGINE, PART 48: from a row's condition to the evaluator's heap, and back to the row's outcome.
-/
namespace Go.Ev
variable {P : Program}

/-- 'returnsInHanded_of_change_and' (Derived/Handed.lean), with the world's shape handed on -/
theorem returnsIn_shaped {H : Type} {enc : TypeId × Value → H} {a : Assume} {C : Checked} {os : Os} {f : FuncId} {fn : Func} {s : ChangeSpec} {conds : List PathCond} {apart fresh handsOn again : Bool} {X : World → Array Value → Prop}
    (hX : ∀ (w w' : World) (args : Array Value), w.heap = w'.heap → X w args → X w' args)
    (own : ownKnob C.prog.godebug = none) (started : os.Started) (noInit : C.prog.inits.idxOf? f = none) (hfn : C.prog.funcs[f]? = some fn)
    (witness : ∃ (w : World) (tape : Tape) (i : Input), w.os = os ∧ (w.forCall tape i).Shaped C.prog ∧ i.vars = [] ∧ Input.okWide C.prog (w.forCall tape i) .any w.heap.size f i ∧
      ((s.pre enc C.prog fn conds apart (w.forCall tape i).memory i.args ∧ X (w.forCall tape i).memory i.args) ∧ sizedMet enc C.prog fn (OpenSpec.ofChange s) apart (w.forCall tape i).memory i.args) ∧ a.holds C.prog (lone (Frame.enter C.prog f i.args .normal) [] (w.forCall tape i)))
    (contract : ∀ (W : World) (base : Nat) (args : Array Value) (ds gs : List (DataW H)) (before : List MemPlace), W.ShapedOpen C.prog →
      (∀ (j : Nat) t v, fn.params[j]? = some t → args[j]? = some v → Value.okWide C.prog W .any base t v) →
      DataW.Whole enc C.prog fn.params.toList s.vars apart W args.toList ds gs before →
      conds.all (PathCond.test C.prog ⟨fn.params.toList, ds, s.plain.varTypes C.prog, gs⟩) = true → X W args →
      Calls C.prog f args W fun e W' => ∃ v, e = .returned v ∧ s.post enc C.prog fn apart fresh handsOn again W args v W') :
    ReturnsInHanded a C os f .any (fun w args => (s.pre enc C.prog fn conds apart w args ∧ X w args) ∧ sizedMet enc C.prog fn (OpenSpec.ofChange s) apart w args) (s.post enc C.prog fn apart fresh handsOn again) := by
  refine returnsInHanded_of_calls own started noInit witness ?_
  intro w tape i _ hsh _ hok hpre _
  obtain ⟨_, _, _, fn', hfn', _, _, _, _, hval⟩ := hok
  have e : fn' = fn := Option.some.inj (hfn'.symm.trans hfn)
  subst e
  obtain ⟨⟨⟨ds, gs, before, hw, hc⟩, hx⟩, _⟩ := hpre
  have hw' := DataW.Whole.of_heap (w' := w.forCall tape i) (by rfl) hw
  refine (contract (w.forCall tape i) w.heap.size i.args ds gs before hsh hval hw' hc (hX _ _ _ (by rfl) hx)).mono fun e W' ⟨v, he, hp⟩ => ?_
  subst he
  exact ChangeSpec.post_blind hp
/-- the variables' blocks are there -/
theorem shaped_size {W : World} (h : W.ShapedOpen P) {g : Nat} (hg : P.globals.size = g + 1) (hrow : (((begin P (fun _ _ => 0) default).world.heap[g]?).bind Obj.row?).isSome = true) : P.globals.size ≤ W.heap.size := by
  cases hr : ((begin P (fun _ _ => 0) default).world.heap[g]?).bind Obj.row? with
  | none => rw [hr] at hrow; cases hrow
  | some x =>
    obtain ⟨cs, hcs, _⟩ := h.1 g x.1 x.2 (by omega) hr
    have := (Array.getElem?_eq_some_iff.1 hcs).1
    omega
/-- the variables alone -/
noncomputable def gren (P : Program) : Ren := fun b => if b < P.globals.size then some (b, 0, (0, 0)) else none
theorem HR.start {W : World} (hsz : P.globals.size ≤ W.heap.size) {h0 : H} (f0 : Flat0 P h0)
    (hrows : ∀ b n cs e fz, h0.get b = some (.row n cs e 0 true fz) → ∃ arr fr, W.heap[b]? = some (.cells arr e fr) ∧ n ≤ arr.size ∧ ∀ i v, i < n → cs.get i = some v → ∃ x, arr[i]? = some x ∧ VR (gren P) v x) : HR P (gren P) h0 W := by
  have get : ∀ b x, gren P b = some x → b < P.globals.size ∧ x = (b, 0, (0, 0)) := fun b x hb => by
    unfold gren at hb
    split at hb
    · rename_i h; cases hb; exact ⟨h, rfl⟩
    · cases hb
  refine ⟨fun b c s wl hb => ?_, fun b c s wl o hb hg => ?_, fun b b' c s wl s' wl' o o' hb hb' hg hg' => ?_, fun g hg => ?_⟩
  · obtain ⟨h1, h2⟩ := get _ _ hb
    cases h2
    exact ⟨by rw [f0.next]; exact h1, by omega⟩
  · obtain ⟨h1, h2⟩ := get _ _ hb
    cases h2
    obtain ⟨n, cs, e, fz, rfl, _⟩ := f0.row _ _ hg
    obtain ⟨arr, fr, k1, k2, k3⟩ := hrows _ _ _ _ _ hg
    exact ⟨_, k1, rfl, arr, fr, rfl, ⟨by omega, fun _ h => (by cases h), fun i v hi hv => by rw [Nat.zero_add]; exact k3 i v hi hv, fun h => (by cases h)⟩, fun h => absurd rfl h⟩
  · obtain ⟨h1, h2⟩ := get _ _ hb
    obtain ⟨h3, h4⟩ := get _ _ hb'
    cases h2; cases h4; exact .inl rfl
  · unfold gren; rw [if_pos hg]
/-- a heap of rows -/
noncomputable def heapOf (n : Nat) : List (Nat × Ob) → H
  | [] => ⟨n, 0, .L⟩
  | (b, o) :: l => ⟨n, 0, (heapOf n l).tab.put (some o) b⟩
/-- a table of integers -/
noncomputable def tabRow (e : Nat) (k : IntKind) (zs : List Int) : Ob := .row zs.length (T.ofList (zs.map fun z => V.int k z) 0 .L) e 0 true 0
/-- a variable of ours, with its name, its element's type (as the heap's rows bear it), its cells -/
structure Tab where
  g : Nat
  name : String
  t : Nat
  e : Nat
  k : IntKind
  zs : List Int
noncomputable def tabHeap (n : Nat) : List Tab → H
  | [] => ⟨n, 0, .L⟩
  | x :: l => ⟨n, 0, (tabHeap n l).tab.put (some (tabRow x.t x.k x.zs)) x.g⟩
theorem tabHeap_get {n : Nat} : ∀ {l : List Tab} {b : Nat} {o : Ob}, (tabHeap n l).get b = some o → ∃ x ∈ l, b = x.g ∧ o = tabRow x.t x.k x.zs
  | [], b, o, h => by unfold tabHeap H.get at h; cases b <;> cases h
  | x :: l, b, o, h => by
    have h' : ((tabHeap n l).tab.put (some (tabRow x.t x.k x.zs)) x.g).get b = some o := h
    rw [T.get_put] at h'
    by_cases e : b = x.g
    · rw [if_pos e] at h'; cases h'; exact ⟨x, by simp, e, rfl⟩
    · rw [if_neg e] at h'
      obtain ⟨y, h1, h2⟩ := tabHeap_get (show (tabHeap n l).get b = some o from h')
      exact ⟨y, by simp [h1], h2⟩
theorem tabHeap_next {n : Nat} : ∀ {l : List Tab}, (tabHeap n l).next = n
  | [] => rfl
  | _ :: _ => rfl
theorem tabRow_get {zs : List Int} {k : IntKind} {i : Nat} {v : V} (h : (T.ofList (zs.map fun z => V.int k z) 0 .L).get i = some v) : ∃ z, zs[i]? = some z ∧ v = .int k z := by
  rw [T.get_ofList] at h
  split at h
  · rw [Nat.sub_zero, List.getElem?_map, Option.map_eq_some_iff] at h
    obtain ⟨z, hz, rfl⟩ := h
    exact ⟨z, hz, rfl⟩
  · cases i <;> cases h
theorem tabHeap_flat {l : List Tab} (hl : ∀ x ∈ l, x.g < P.globals.size) : Flat0 P (tabHeap P.globals.size l) := by
  refine ⟨fun b o h => ?_, tabHeap_next, fun b o h => ?_⟩
  · obtain ⟨x, hx, rfl, _⟩ := tabHeap_get h
    rw [tabHeap_next]; exact hl x hx
  · obtain ⟨x, hx, rfl, rfl⟩ := tabHeap_get h
    refine ⟨_, _, _, _, rfl, fun i v _ hv => ?_⟩
    obtain ⟨z, _, rfl⟩ := tabRow_get hv
    rfl
/-- what is asked of the program and of the row's list -/
structure TabOk (P : Program) (laid : List (String × DataW Unit)) (x : Tab) : Prop where
  mem : (x.name, Lib.tabData x.k x.zs) ∈ laid
  at_ : P.globalNamed x.name = some x.g
  type : (P.globals[x.g]?).map (·.type) = some x.t
  und : P.underlying x.t = some (.array x.zs.length x.e)
  elem : P.underlying x.e = some (.int x.k)
  one : P.cellsOf x.e = 1
  size : P.cellsOf x.t = x.zs.length
  row : (((begin P (fun _ _ => 0) default).world.heap[x.g]?).bind Obj.row?).map (·.2) = some x.t
theorem laid_mem {P : Program} {w : World} : ∀ {l : List (String × DataW Unit)} {ps : List MemPlace}, DataW.LaidVars P w l ps → ∀ n d, (n, d) ∈ l →
    ∃ g t cs fuel p, P.globalNamed n = some g ∧ (P.globals[g]?).map (·.type) = some t ∧ w.var? P n = some cs ∧ DataW.trod (fun _ => ()) P w 0 (fun _ => true) false fuel t cs.toList = some (d, p)
  | [], _, _, _, _, hm => by cases hm
  | (n', d') :: r, ps, h, n, d, hm => by
    obtain ⟨g, t, cs, fuel, p, q, h1, h2, h3, h4, h5, _⟩ := h
    rcases List.mem_cons.1 hm with e | e
    · cases e
      exact ⟨g, t, cs, fuel, p, h1, h2, h3, h4⟩
    · exact laid_mem h5 n d e
theorem HR.tables {W : World} {laid : List (String × DataW Unit)} {l : List Tab} (hsh : W.ShapedOpen P) (hsz : P.globals.size ≤ W.heap.size) (hl : laidMet P laid W) (hg : ∀ x ∈ l, x.g < P.globals.size) (ht : ∀ x ∈ l, TabOk P laid x) : HR P (gren P) (tabHeap P.globals.size l) W := by
  refine HR.start hsz (tabHeap_flat hg) fun b n cs e fz hb => ?_
  obtain ⟨x, hx, rfl, ho⟩ := tabHeap_get hb
  have ok := ht x hx
  obtain ⟨⟨zero, t0⟩, hzero, rfl⟩ := Option.map_eq_some_iff.1 ok.row
  obtain ⟨arr, harr, _, _⟩ := hsh.1 _ _ _ (hg x hx) hzero
  obtain ⟨ps, hv, _⟩ := hl
  obtain ⟨g, t, cs', fuel, p, h1, h2, h3, h4⟩ := laid_mem hv _ _ ok.mem
  obtain rfl := Option.some.inj (ok.at_.symm.trans h1)
  obtain rfl := Option.some.inj (ok.type.symm.trans h2)
  have hcells := Lib.cells_of_tab ok.und ok.elem ok.one ok.size h4
  have e1 : cs' = arr := by
    unfold World.var? at h3
    rw [ok.at_] at h3
    simp only [Option.bind_some, harr] at h3
    exact (Option.some.inj h3).symm
  subst e1
  unfold tabRow at ho
  cases ho
  have hlen : cs'.size = x.zs.length := by rw [← Array.length_toList, hcells]; simp
  refine ⟨cs', (0, 0), harr, by omega, fun i v hi hv => ?_⟩
  obtain ⟨z, hz, rfl⟩ := tabRow_get hv
  refine ⟨.int x.k z, ?_, VR.int _ _⟩
  rw [← Array.getElem?_toList, hcells, List.getElem?_map, hz]; rfl
/-- behind the call: the value, and the memory that was there -/
theorem Ends.back {ρ : Ren} {h h' : H} {w w' : World} {v : V} {e : Ending} (he : Ends P ρ h w v h' e w') (hro : ∀ b o, h.get b = some o → o.ro = true) : ∃ x, e = .returned x ∧ (∃ ρ', VR ρ' v x) ∧ w'.os = w.os ∧ w'.output = w.output ∧ ∀ i, i < w.heap.size → w'.heap[i]? = w.heap[i]? := by
  obtain ⟨x, ρ', rfl, haft, hx⟩ := he
  exact ⟨x, rfl, ⟨ρ', hx⟩, haft.mv.os.1, haft.mv.os.2.1, fun c hc => haft.mv.keep c hc fun b s wl o _ hg => hro b o hg⟩
end Go.Ev
/-
  ENGINE, PART 49: what a call answers at values with addresses, found once in a heap of its own.
-/
namespace Go.Ev
variable {P : Program}

noncomputable section
/-- one heap's block, in another: the variables' are the same, the others by a list -/
def blkOk (G : Nat) (σ : List Nat) (b b' : Nat) : Bool := bsel (Nat.blt b G) (Nat.beq b b') (og (nth σ (Nat.sub b G)) fun x => Nat.beq x b')
mutual
def V.like (G : Nat) (σ : List Nat) : V → V → Bool
  | .ptr b o, w => (match w with | .ptr b' o' => bsel (blkOk G σ b b') (Nat.beq o o') false | _ => false)
  | .slice b o l c, w => (match w with | .slice b' o' l' c' => bsel (blkOk G σ b b') (bsel (Nat.beq o o') (bsel (Nat.beq l l') (Nat.beq c c') false) false) false | _ => false)
  | .agg a, w => (match w with | .agg b => V.likeL G σ a b | _ => false)
  | .tuple a, w => (match w with | .tuple b => V.likeL G σ a b | _ => false)
  | v, w => bsel v.flat (v.beq w) false
def V.likeL (G : Nat) (σ : List Nat) : List V → List V → Bool
  | [], m => (match m with | [] => true | _ => false)
  | v :: l, m => (match m with | w :: m' => bsel (V.like G σ v w) (V.likeL G σ l m') false | _ => false)
end
def likeCells (G : Nat) (σ : List Nat) (cs cs' : T V) : Nat → Bool := Nat.rec (motive := fun _ => Bool) true fun i ih =>
  bsel ih (Option.rec (motive := fun _ => Bool) true (fun v => Option.rec (motive := fun _ => Bool) false (fun v' => V.like G σ v v') (cs'.get i)) (cs.get i)) false
def likeRow (G : Nat) (σ : List Nat) (hc h : H) (b b' : Nat) : Bool := rowK hc b fun n cs e w _ _ => rowK h b' fun n' cs' e' w' _ _ => bsel (Nat.beq n n') (bsel (Nat.beq e e') (bsel (Nat.beq w 0) (bsel (Nat.beq w' 0) (likeCells G σ cs cs' n) false) false) false) false
/-- all blocks on the list -/
def likeRows (G : Nat) (σ : List Nat) (hc h : H) : List Nat → Nat → Bool := List.rec (motive := fun _ => Nat → Bool) (fun _ => true) fun b' _ ih b => bsel (likeRow G σ hc h b b') (ih (Nat.succ b)) false
end

theorem bsel_and {a b : Bool} : bsel a b false = true ↔ a = true ∧ b = true := by rw [bsel_eq]; cases a <;> simp
noncomputable def Ren.via (ρ : Ren) (G : Nat) (σ : List Nat) : Ren := fun b => if b < G then ρ b else match σ[b - G]? with | some b' => ρ b' | none => none
theorem blkOk_true {G : Nat} {σ : List Nat} {b b' : Nat} (h : blkOk G σ b b' = true) (ρ : Ren) : ρ.via G σ b = ρ b' := by
  unfold blkOk at h
  rw [bsel_eq, nblt] at h
  unfold Ren.via
  by_cases hb : b < G
  · simp only [hb, decide_true, if_true] at h
    rw [nbeq, decide_eq_true_iff] at h
    rw [if_pos hb, h]
  · simp only [hb, decide_false, Bool.false_eq_true, if_false] at h
    obtain ⟨x, hx, h⟩ := og_true.1 h
    rw [nbeq, decide_eq_true_iff] at h
    rw [nth_eq] at hx
    rw [if_neg hb, show σ[b - G]? = some x from hx, h]
mutual
theorem V.like_VR {G : Nat} {σ : List Nat} {ρ : Ren} : ∀ (v w : V) (x : Value), V.like G σ v w = true → VR ρ w x → VR (ρ.via G σ) v x
  | .ptr b o, w, x, h, hx => by
    cases w <;> simp only [V.like] at h <;> try cases h
    rename_i b' o'
    obtain ⟨h1, h2⟩ := bsel_and.1 h
    rw [nbeq, decide_eq_true_iff] at h2
    subst h2
    simp only [VR] at hx ⊢
    rw [blkOk_true h1]; exact hx
  | .slice b o l c, w, x, h, hx => by
    cases w <;> simp only [V.like] at h <;> try cases h
    rename_i b' o' l' c'
    obtain ⟨h1, h⟩ := bsel_and.1 h
    obtain ⟨h2, h⟩ := bsel_and.1 h
    obtain ⟨h3, h4⟩ := bsel_and.1 h
    rw [nbeq, decide_eq_true_iff] at h2 h3 h4
    subst h2; subst h3; subst h4
    simp only [VR] at hx ⊢
    rw [blkOk_true h1]; exact hx
  | .agg a, w, x, h, hx => by
    cases w <;> simp only [V.like] at h <;> try cases h
    simp only [VR] at hx ⊢
    obtain ⟨y, e, hy⟩ := hx
    exact ⟨y, e, V.likeL_VR _ _ _ h hy⟩
  | .tuple a, w, x, h, hx => by
    cases w <;> simp only [V.like] at h <;> try cases h
    simp only [VR] at hx ⊢
    obtain ⟨y, e, hy⟩ := hx
    exact ⟨y, e, V.likeL_VR _ _ _ h hy⟩
  | .bool a, w, x, h, hx => like_flat rfl (by simpa only [V.like] using h) hx
  | .int _ _, w, x, h, hx => like_flat rfl (by simpa only [V.like] using h) hx
  | .str _, w, x, h, hx => like_flat rfl (by simpa only [V.like] using h) hx
  | .nilp, w, x, h, hx => like_flat rfl (by simpa only [V.like] using h) hx
  | .nils, w, x, h, hx => like_flat rfl (by simpa only [V.like] using h) hx
  | .nilm, w, x, h, hx => like_flat rfl (by simpa only [V.like] using h) hx
  | .map b, w, x, h, hx => by simp only [V.like] at h; cases h
  | .nilf, w, x, h, hx => like_flat rfl (by simpa only [V.like] using h) hx
  | .fn f a b, w, x, h, hx => by
    simp only [V.like] at h
    obtain ⟨h1, h2⟩ := bsel_and.1 h
    have := V.beq_sound _ _ h2; subst this
    exact VR.flat _ _ h1 hx
  | .nili, w, x, h, hx => like_flat rfl (by simpa only [V.like] using h) hx
  | .iface t v, w, x, h, hx => by
    simp only [V.like] at h
    obtain ⟨h1, h2⟩ := bsel_and.1 h
    have := V.beq_sound _ _ h2; subst this
    exact VR.flat _ _ h1 hx
theorem V.likeL_VR {G : Nat} {σ : List Nat} {ρ : Ren} : ∀ (v w : List V) (x : List Value), V.likeL G σ v w = true → VRL ρ w x → VRL (ρ.via G σ) v x
  | [], w, x, h, hx => by
    cases w with
    | nil => simpa [VRL] using hx
    | cons _ _ => simp only [V.likeL] at h; cases h
  | v :: l, w, x, h, hx => by
    cases w with
    | nil => simp only [V.likeL] at h; cases h
    | cons u m =>
      simp only [V.likeL] at h
      obtain ⟨h1, h2⟩ := bsel_and.1 h
      simp only [VRL] at hx ⊢
      obtain ⟨y, ys, e, h3, h4⟩ := hx
      exact ⟨y, ys, e, V.like_VR v u y h1 h3, V.likeL_VR l m ys h2 h4⟩
theorem like_flat {G : Nat} {σ : List Nat} {ρ : Ren} {v w : V} {x : Value} (hf : v.flat = true) (h : bsel v.flat (v.beq w) false = true) (hx : VR ρ w x) : VR (ρ.via G σ) v x := by
  obtain ⟨_, h2⟩ := bsel_and.1 h
  have := V.beq_sound _ _ h2; subst this
  exact VR.flat _ _ hf hx
end
theorem likeCells_true {G : Nat} {σ : List Nat} {cs cs' : T V} : ∀ {n : Nat}, likeCells G σ cs cs' n = true → ∀ i v, i < n → cs.get i = some v → ∃ v', cs'.get i = some v' ∧ V.like G σ v v' = true
  | 0, _, i, v, hi, _ => by omega
  | n + 1, h, i, v, hi, hv => by
    obtain ⟨h1, h2⟩ := bsel_and.1 (show bsel (likeCells G σ cs cs' n) (Option.rec (motive := fun _ => Bool) true (fun v => Option.rec (motive := fun _ => Bool) false (fun v' => V.like G σ v v') (cs'.get n)) (cs.get n)) false = true from h)
    by_cases e : i = n
    · subst e
      rw [hv] at h2
      cases h3 : cs'.get i with
      | none => rw [h3] at h2; cases h2
      | some v' => rw [h3] at h2; exact ⟨v', rfl, h2⟩
    · exact likeCells_true h1 i v (by omega) hv
theorem likeRows_true {G : Nat} {σ : List Nat} {hc h : H} : ∀ {l : List Nat} {b : Nat}, likeRows G σ hc h l b = true → ∀ i b', l[i]? = some b' → likeRow G σ hc h (b + i) b' = true
  | [], b, _, i, b', hi => by simp at hi
  | x :: l, b, h0, i, b', hi => by
    obtain ⟨h1, h2⟩ := bsel_and.1 (show bsel (likeRow G σ hc h b x) (likeRows G σ hc h l (b + 1)) false = true from h0)
    cases i with
    | zero => simp at hi; subst hi; simpa using h1
    | succ i =>
      have := likeRows_true h2 i b' (by simpa using hi)
      rwa [show b + (i + 1) = b + 1 + i by omega]
/-- a heap of nothing but rows that are only read, the variables' among them, with m blocks of its own -/
structure Canon (P : Program) (hc : H) (m : Nat) : Prop where
  ok : hc.ok
  next : hc.next = P.globals.size + m
  row : ∀ b o, hc.get b = some o → ∃ n cs e fz, o = .row n cs e 0 true fz
  flat : ∀ b n cs e fz, b < P.globals.size → hc.get b = some (.row n cs e 0 true fz) → ∀ i v, i < n → cs.get i = some v → v.flat = true
theorem HR.canon {ρ : Ren} {hc h : H} {w : World} {m : Nat} (hr : HR P ρ h w) (c : Canon P hc m) {σ : List Nat} (hm : σ.length = m) (hin : rowsIn hc h P.globals.size = true) (hl : likeRows P.globals.size σ hc h σ P.globals.size = true) : HR P (ρ.via P.globals.size σ) hc w := by
  have get : ∀ b x, ρ.via P.globals.size σ b = some x → (b < P.globals.size ∧ ρ b = some x) ∨ (∃ i b', b = P.globals.size + i ∧ σ[i]? = some b' ∧ ρ b' = some x) := fun b x hb => by
    unfold Ren.via at hb
    split at hb
    · rename_i h; exact .inl ⟨h, hb⟩
    · rename_i h
      split at hb
      · rename_i b' hs; exact .inr ⟨b - P.globals.size, b', by omega, hs, hb⟩
      · cases hb
  refine ⟨fun b x s wl hb => ?_, fun b x s wl o hb hg => ?_, fun b b' x s wl s' wl' o o' hb hb' hg hg' => .inr ?_, fun g hg => ?_⟩
  · rcases get _ _ hb with ⟨h1, h2⟩ | ⟨i, b', rfl, h2, h3⟩
    · exact ⟨by rw [c.next]; omega, (hr.dom _ _ _ _ h2).2⟩
    · have := (List.getElem?_eq_some_iff.1 h2).1
      exact ⟨by rw [c.next]; omega, (hr.dom _ _ _ _ h3).2⟩
  · obtain ⟨n, cs, e, fz, rfl⟩ := c.row _ _ hg
    rcases get _ _ hb with ⟨h1, h2⟩ | ⟨i, b', rfl, h2, h3⟩
    · have hri := rowsIn_true hin b h1
      unfold rowIn at hri
      rw [hg] at hri
      obtain ⟨n1, cs1, e1, w1, ro1, fz1, hg1, hri⟩ := rowK_true.1 (show rowK hc b _ = true from hri)
      rw [hg] at hg1; cases hg1
      obtain ⟨n2, cs2, e2, w2, ro2, fz2, hg2, hri⟩ := rowK_true.1 hri
      obtain ⟨k1, hri⟩ := bg_true.1 hri
      obtain ⟨k2, hri⟩ := bg_true.1 hri
      obtain ⟨k3, hri⟩ := bg_true.1 hri
      obtain ⟨k4, hri⟩ := bg_true.1 hri
      obtain ⟨_, hri5⟩ := bg_true.1 hri
      clear hri
      rw [nbeq, decide_eq_true_iff] at k1 k2 k3
      subst k1; subst k2; subst k3; subst k4
      obtain ⟨ob, o1, hwi, arr, fr, rfl, hrow, hsz⟩ := hr.obj _ _ _ _ _ h2 hg2
      refine ⟨_, o1, hwi, arr, fr, rfl, ⟨hrow.fits, fun _ h => (by cases h), fun i v hi hv => ?_, fun h => (by cases h)⟩, hsz⟩
      obtain ⟨y, hy, hvy⟩ := hrow.cell i v hi (cellsIn_true hri5 i v hi hv)
      exact ⟨y, hy, VR.flat v y (c.flat b _ _ _ _ h1 hg i v hi hv) hvy⟩
    · have hlr := likeRows_true hl i b' h2
      unfold likeRow at hlr
      obtain ⟨n1, cs1, e1, w1, ro1, fz1, hg1, hlr⟩ := rowK_true.1 hlr
      rw [hg] at hg1; cases hg1
      obtain ⟨n2, cs2, e2, w2, ro2, fz2, hg2, hlr⟩ := rowK_true.1 hlr
      obtain ⟨k1, hlr⟩ := bsel_and.1 hlr
      obtain ⟨k2, hlr⟩ := bsel_and.1 hlr
      obtain ⟨_, hlr⟩ := bsel_and.1 hlr
      obtain ⟨k4, hlr5⟩ := bsel_and.1 hlr
      clear hlr
      rw [nbeq, decide_eq_true_iff] at k1 k2 k4
      subst k1; subst k2; subst k4
      obtain ⟨ob, o1, hwi, arr, fr, rfl, hrow, hsz⟩ := hr.obj _ _ _ _ _ h3 hg2
      refine ⟨_, o1, hwi, arr, fr, rfl, ⟨hrow.fits, fun _ h => (by cases h), fun j v hj hv => ?_, fun h => (by cases h)⟩, hsz⟩
      obtain ⟨v', hv', hlk⟩ := likeCells_true hlr5 j v hj hv
      obtain ⟨y, hy, hvy⟩ := hrow.cell j v' hj hv'
      exact ⟨y, hy, V.like_VR v v' y hlk hvy⟩
  · obtain ⟨_, _, _, _, rfl⟩ := c.row _ _ hg
    obtain ⟨_, _, _, _, rfl⟩ := c.row _ _ hg'
    exact ⟨rfl, rfl⟩
  · unfold Ren.via; rw [if_pos hg]; exact hr.glob g hg
theorem Aft.canon {ρ ρ1 ρ' : Ren} {hc h h' : H} {w w' : World} {m : Nat} (hr : HR P ρ h w) (c : Canon P hc m) (a : Aft P ρ1 hc w h' ρ' w') : Aft P ρ h w h ρ w' := by
  have keep : ∀ c, c < w.heap.size → w'.heap[c]? = w.heap[c]? := fun x hx => a.mv.keep x hx fun b s wl o _ hg => by
    obtain ⟨_, _, _, _, rfl⟩ := c.row _ _ hg; rfl
  refine ⟨⟨.refl _, Nat.le_refl _, a.mv.size, fun c hc _ => keep c hc, fun b c s wl o hb hg hf _ => ⟨b, s, wl, o, hb, hg, hf⟩, a.mv.os⟩, Nw.refl _ _, ⟨fun b c s wl hb => ?_, fun b c s wl o hb hg => ?_, hr.inj, hr.glob⟩⟩
  · obtain ⟨h1, h2⟩ := hr.dom _ _ _ _ hb
    exact ⟨h1, Nat.lt_of_lt_of_le h2 a.mv.size⟩
  · obtain ⟨ob, h1, h2⟩ := hr.obj _ _ _ _ _ hb hg
    exact ⟨ob, by rw [keep c (hr.dom _ _ _ _ hb).2]; exact h1, h2⟩
theorem CallOk.deep {f : Nat} {args args0 : List V} {hc h h' : H} {v : V} {m : Nat} (k : CallOk P f args0 hc v h') (c : Canon P hc m) {σ : List Nat} (hm : σ.length = m) (ha : V.likeL P.globals.size σ args0 args = true) (hv : v.flat = true) (hin : rowsIn hc h P.globals.size = true)
    (hl : likeRows P.globals.size σ hc h σ P.globals.size = true) : CallOk P f args h v h := by
  rcases k with ⟨c1, c2⟩ | k
  · refine .inl ⟨c1, fun F n ρ w xs hF hro hr hargs => CallsIn.mono (F := F) (c2 F n _ w xs hF hro (hr.canon c hm hin hl) (V.likeL_VR _ _ _ ha hargs)) fun e w' he => ?_⟩
    obtain ⟨x, ρ', rfl, haft, hx⟩ := he
    exact ⟨x, ρ, rfl, haft.canon hr c, VR.flat _ _ hv hx⟩
  · refine .inr fun ρ w xs hr hargs => ?_
    obtain ⟨x, w', ρ', e1, haft, hx⟩ := k _ w xs (hr.canon c hm hin hl) (V.likeL_VR _ _ _ ha hargs)
    exact ⟨x, w', ρ, e1, haft.canon hr c, VR.flat _ _ hv hx⟩
structure Deep where
  hc : H
  m : Nat
  args : List V
  v : V
/-- an oracle out of answers that were found once, each in a heap of its own; the finder names the blocks -/
noncomputable def oDeep (G : Nat) (find : List V → H → List Nat) (tab : List Deep) : OF := fun args h k => List.rec (motive := fun _ => Bool) false (fun d _ ih =>
  bsel (bsel (Nat.beq (len (find args h) 0) d.m) (bsel (V.likeL G (find args h) d.args args) (bsel (likeRows G (find args h) d.hc h (find args h) G) (rowsIn d.hc h G) false) false) false) (k d.v h) ih) tab
theorem oDeep_ok {f : Nat} {find : List V → H → List Nat} {tab : List Deep} (ht : ∀ d ∈ tab, Canon P d.hc d.m ∧ d.v.flat = true ∧ ∃ h', CallOk P f d.args d.hc d.v h') : OrcAt P f (oDeep P.globals.size find tab) := by
  intro args h k hok hk
  induction tab with
  | nil => cases hk
  | cons d tab ih =>
    have hk' : bsel (bsel (Nat.beq (len (find args h) 0) d.m) (bsel (V.likeL P.globals.size (find args h) d.args args) (bsel (likeRows P.globals.size (find args h) d.hc h (find args h) P.globals.size) (rowsIn d.hc h P.globals.size) false) false) false) (k d.v h) (oDeep P.globals.size find tab args h k) = true := hk
    rw [bsel_eq] at hk'
    split at hk'
    · rename_i he
      obtain ⟨e1, he⟩ := bsel_and.1 he
      obtain ⟨e2, he⟩ := bsel_and.1 he
      obtain ⟨e3, e4⟩ := bsel_and.1 he
      rw [nbeq, len0, decide_eq_true_iff] at e1
      obtain ⟨t1, t2, h', t3⟩ := ht d (by simp)
      exact ⟨d.v, h, hk', hok, Ext.refl _, t3.deep t1 e1 e2 t2 e4 e3⟩
    · exact ih (fun q hq => ht q (by simp [hq])) hk'
end Go.Ev
