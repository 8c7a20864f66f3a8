/-
  AN ENGINE: a verified evaluator of the model's code on an abstract heap (part 7 of 8). Its laws are proved here, from the model's own; no condition.
-/
import Derived.Test.YtjeagjpfgilkdaaGreatDoorE5
import Derived.Lib.Bytealg
set_option linter.unusedVariables false
set_option linter.unusedSimpArgs false
/-
  ENGINE, PART 45: functions without a body: oracles.
-/
namespace Go.Ev
variable {P : Program}

/-- a function without a body, and the model's entry for it -/
structure ExtAt (P : Program) (f : Nat) (fn : Func) (e : Array Value → Sem Value) : Prop where
  at_ : P.funcs[f]? = some fn
  name : (fn.name == "runtime.NumGoroutine") = false
  body : fn.body.isNone = true
  next : Extern.findNext fn = none
  find : Extern.find fn = some e
theorem ExtAt.form {f : Nat} {fn : Func} {e : Array Value → Sem Value} (x : ExtAt P f fn e) {args : List V} {h h' : H} {v : V}
    (hr : ∀ (ρ : Ren) (w : World) (xs : Array Value), HR P ρ h w → VRL ρ args xs.toList → ∃ y w' ρ', (e xs).run P w = .ok y w' ∧ Aft P ρ h w h' ρ' w' ∧ VR ρ' v y) : CallOk P f args h v h' :=
  .inr fun ρ w xs h1 h2 => by
    obtain ⟨y, w', ρ', e1, e2, e3⟩ := hr ρ w xs h1 h2
    exact ⟨y, w', ρ', by rw [run_callFunc_extern x.at_ x.name x.body x.next x.find, e1]; rfl, e2, e3⟩
abbrev OF := List V → H → (V → H → Bool) → Bool
/-- an oracle for a function -/
def OrcAt (P : Program) (f : Nat) (g : OF) : Prop := ∀ args (h : H) k, h.ok → g args h k = true → ∃ v h', k v h' = true ∧ h'.ok ∧ Ext h h' ∧ CallOk P f args h v h'
theorem OrcOk.nil : OrcOk P .L := fun f g h => by cases f <;> cases h
theorem OrcOk.put {orc : Orc} (h : OrcOk P orc) {f : Nat} {g : OF} (hg : OrcAt P f g) : OrcOk P (orc.put (some g) f) := fun f' g' e => by
  have : (orc.put (some g) f).get f' = if f' = f then some g else orc.get f' := T.get_put _ _ _ _
  rw [this] at e
  by_cases hf : f' = f
  · subst hf; rw [if_pos rfl] at e; cases e; exact hg
  · rw [if_neg hf] at e; exact h f' g' e
theorem VRL.two {ρ : Ren} {a b : V} {xs : Array Value} (h : VRL ρ [a, b] xs.toList) : ∃ x y, xs = #[x, y] ∧ VR ρ a x ∧ VR ρ b y := by
  obtain ⟨x, l, e, h1, h2⟩ := h.cons_inv
  obtain ⟨y, l2, e2, h3, h4⟩ := h2.cons_inv
  have := h4.nil_inv; subst this; subst e2
  exact ⟨x, y, by rw [← xs.toArray_toList, e], h1, h3⟩
theorem VRL.one_ {ρ : Ren} {a : V} {xs : Array Value} (h : VRL ρ [a] xs.toList) : ∃ x, xs = #[x] ∧ VR ρ a x := by
  obtain ⟨x, l, e, h1, h2⟩ := h.cons_inv
  have := h2.nil_inv; subst this
  exact ⟨x, by rw [← xs.toArray_toList, e], h1⟩

noncomputable section
/-! abi.NoEscape -/
def oId : OF := fun args h k => match args with
  | [x] => k x h
  | _ => false
theorem oId_ok {f : Nat} {fn : Func} (x : ExtAt P f fn Extern.AbiNoEscape.same) : OrcAt P f oId := by
  intro args h k hok hk
  match args, hk with
  | [a], hk =>
    refine ⟨a, h, hk, hok, Ext.refl _, x.form fun ρ w xs hr hv => ?_⟩
    obtain ⟨y, rfl, hy⟩ := hv.one_
    exact ⟨y, w, ρ, rfl, Aft.refl hr, hy⟩

/-! bytealg.IndexByteString, CountString, and cmpstring -/
def findI (c : Nat) : List Nat → Nat → Int
  | [], _ => -1
  | x :: l, i => Bool.rec (motive := fun _ => Int) (findI c l (Nat.succ i)) (.ofNat i) (Nat.beq x c)
def cntI (c : Nat) : List Nat → Nat → Int
  | [], n => .ofNat n
  | x :: l, n => Bool.rec (motive := fun _ => Int) (cntI c l n) (cntI c l (Nat.succ n)) (Nat.beq x c)
def cmpI (s t : List Nat) : Int := Bool.rec (motive := fun _ => Int) (Bool.rec (motive := fun _ => Int) 1 0 (seq s t)) (-1) (slt s t)
def oIdx : OF := fun args h k => match args with
  | [.str s, .int .u8 (.ofNat c)] => bg (Nat.blt c 256) (k (.int .i64 (findI c s 0)) h)
  | _ => false
def oCnt : OF := fun args h k => match args with
  | [.str s, .int .u8 (.ofNat c)] => bg (Nat.blt c 256) (k (.int .i64 (cntI c s 0)) h)
  | _ => false
def oCmp : OF := fun args h k => match args with
  | [.str s, .str t] => k (.int .i64 (cmpI s t)) h
  | _ => false
theorem u8_beq {b : UInt8} {c : Nat} (hc : c < 256) : (b == c.toUInt8) = decide (b.toNat = c) := by
  rw [Bool.eq_iff_iff]
  simp only [beq_iff_eq, decide_eq_true_iff]
  constructor
  · rintro rfl; simp [Nat.mod_eq_of_lt hc]
  · rintro rfl; simp
theorem findI_eq {c : Nat} (hc : c < 256) : ∀ (l : List UInt8) (n : Nat), findI c (l.map UInt8.toNat) n = if Lib.indexByte l c.toUInt8 = -1 then -1 else Lib.indexByte l c.toUInt8 + n
  | [], n => by simp [findI, Lib.indexByte]
  | b :: l, n => by
    have ih := findI_eq hc l (n + 1)
    simp only [List.map_cons, findI, Lib.indexByte, brec, nbeq, u8_beq hc]
    have hge := Lib.indexByte_ge l c.toUInt8
    by_cases hb : b.toNat = c
    · simp [hb]
    · simp only [hb, decide_false, Bool.false_eq_true, if_false]
      rw [ih]
      by_cases hi : Lib.indexByte l c.toUInt8 = -1
      · simp [hi]
      · have : (Lib.indexByte l c.toUInt8 == -1) = false := by simpa using hi
        simp only [this, hi, Bool.false_eq_true, if_false]
        rw [if_neg (by omega)]; push_cast; omega
theorem cntI_eq {c : Nat} (hc : c < 256) : ∀ (l : List UInt8) (n : Nat), cntI c (l.map UInt8.toNat) n = (n : Int) + (Lib.countByte l c.toUInt8 : Nat)
  | [], n => by simp [cntI, Lib.countByte]
  | b :: l, n => by
    have ih := cntI_eq hc l
    simp only [List.map_cons, cntI, brec, nbeq]
    unfold Lib.countByte at ih ⊢
    rw [List.count_cons, u8_beq hc]
    by_cases hb : b.toNat = c
    · simp only [hb, decide_true, if_true]; rw [ih]; push_cast; omega
    · simp only [hb, decide_false, Bool.false_eq_true, if_false]; rw [ih]; simp
theorem cmpI_eq : ∀ (a b : List UInt8), cmpI (a.map UInt8.toNat) (b.map UInt8.toNat) = Lib.compareBytes a b
  | [], [] => rfl
  | [], _ :: _ => rfl
  | x :: a, [] => by
    unfold cmpI
    rw [List.map_nil, slt_nil, seq_eq]
    simp [Lib.compareBytes]
  | x :: a, y :: b => by
    have ih := cmpI_eq a b
    unfold cmpI at ih ⊢
    rw [Lib.compareBytes]
    simp only [List.map_cons, slt_cons, seq_eq, brec, List.cons.injEq] at ih ⊢
    have h1 : (x < y) = (x.toNat < y.toNat) := by rw [UInt8.lt_iff_toNat_lt]
    have h2 : (y < x) = (y.toNat < x.toNat) := by rw [UInt8.lt_iff_toNat_lt]
    simp only [h1, h2]
    by_cases hlt : x.toNat < y.toNat
    · simp [hlt]
    · by_cases hgt : y.toNat < x.toNat
      · have : ¬ x.toNat = y.toNat := by omega
        simp [hlt, hgt, this]
      · have : x.toNat = y.toNat := by omega
        simp only [this, Nat.lt_irrefl, decide_false, decide_true, Bool.false_or, Bool.true_and, true_and, if_false]
        rw [← ih]
theorem str_u8 {ρ : Ren} {s : List Nat} {c : Nat} {xs : Array Value} (h : VRL ρ [.str s, .int .u8 (.ofNat c)] xs.toList) : ∃ b : ByteArray, xs = #[.string b, .int .u8 (c : Int)] ∧ bytesOf b = s := by
  obtain ⟨x, y, rfl, h1, h2⟩ := h.two
  obtain ⟨b, rfl, hb⟩ := h1.str_inv
  rw [h2.int_inv]
  exact ⟨b, rfl, hb⟩
theorem oIdx_ok {f : Nat} {fn : Func} (x : ExtAt P f fn Extern.BytealgIndexByte.indexByte) : OrcAt P f oIdx := by
  intro args h k hok hk
  unfold oIdx at hk
  split at hk
  · rename_i s c
    obtain ⟨hc, hk⟩ := bg_true.1 hk
    rw [nblt, decide_eq_true_iff] at hc
    refine ⟨_, h, hk, hok, Ext.refl _, x.form fun ρ w xs hr hv => ?_⟩
    obtain ⟨b, rfl, rfl⟩ := str_u8 hv
    refine ⟨_, w, ρ, Lib.run_indexByteString b _ w, Aft.refl hr, ?_⟩
    have e : findI c (bytesOf b) 0 = Lib.indexByte b.data.toList c.toUInt8 := by
      show findI c (b.data.toList.map UInt8.toNat) 0 = _
      rw [findI_eq hc]; split
      · rename_i h; exact h.symm
      · simp
    rw [e]
    exact VR.int _ _
  · cases hk
theorem oCnt_ok {f : Nat} {fn : Func} (x : ExtAt P f fn Extern.BytealgCount.count) : OrcAt P f oCnt := by
  intro args h k hok hk
  unfold oCnt at hk
  split at hk
  · rename_i s c
    obtain ⟨hc, hk⟩ := bg_true.1 hk
    rw [nblt, decide_eq_true_iff] at hc
    refine ⟨_, h, hk, hok, Ext.refl _, x.form fun ρ w xs hr hv => ?_⟩
    obtain ⟨b, rfl, rfl⟩ := str_u8 hv
    refine ⟨_, w, ρ, Lib.run_countString b _ w, Aft.refl hr, ?_⟩
    have e : cntI c (bytesOf b) 0 = (Lib.countByte b.data.toList c.toUInt8 : Nat) := by
      show cntI c (b.data.toList.map UInt8.toNat) 0 = _
      rw [cntI_eq hc]; simp
    rw [e]
    exact VR.int _ _
  · cases hk
theorem oCmp_ok {f : Nat} {fn : Func} (x : ExtAt P f fn Extern.BytealgCompare.compare) : OrcAt P f oCmp := by
  intro args h k hok hk
  unfold oCmp at hk
  split at hk
  · rename_i s t
    refine ⟨_, h, hk, hok, Ext.refl _, x.form fun ρ w xs hr hv => ?_⟩
    obtain ⟨y, z, rfl, h1, h2⟩ := hv.two
    obtain ⟨a, rfl, rfl⟩ := h1.str_inv
    obtain ⟨b, rfl, rfl⟩ := h2.str_inv
    refine ⟨_, w, ρ, Lib.run_compareString a b w, Aft.refl hr, ?_⟩
    rw [← cmpI_eq]
    exact VR.int _ _
  · cases hk

/-! bytealg.MakeNoZero -/
def oMk (e : Nat) : OF := fun args h k => match args with
  | [.int .i64 (.ofNat n)] => bg (Nat.ble n 281474976710656) (h.newK (.row n .L e 2 false 1) fun b h' => k (.slice b 0 n n) h')
  | _ => false
theorem digits_size : ∀ (n t : Nat) (acc : Array Value), (Extern.BytealgMakeNoZero.digits n t acc).size = acc.size + n
  | 0, _, _ => rfl
  | n + 1, t, acc => by
    unfold Extern.BytealgMakeNoZero.digits
    rw [digits_size n]; simp; omega
theorem oMk_ok {f : Nat} {fn : Func} {ps rs : Array TypeId} {t e : Nat} (x : ExtAt P f fn (Extern.BytealgMakeNoZero.makeNoZero ps rs)) (hrs : rs[0]? = some t) (hu : P.underlying t = some (.slice e)) : OrcAt P f (oMk e) := by
  intro args h k hok hk
  unfold oMk at hk
  split at hk
  · rename_i n
    obtain ⟨hc, hk⟩ := bg_true.1 hk
    rw [nble, decide_eq_true_iff] at hc
    rw [H.newK_eq] at hk
    refine ⟨_, _, hk, hok.new _, Ext.new _ _, x.form fun ρ w xs hr hv => ?_⟩
    obtain ⟨y, rfl, h1⟩ := hv.one_
    rw [h1.int_inv]
    obtain ⟨cap, hcap, hch⟩ := choose_cap (P := P) n 0 e w
    obtain ⟨bytes, d2, hch2⟩ : ∃ bytes d2, (choose (.extern "internal/bytealg.MakeNoZero.bytes" 0)).run P { w with drawn := w.drawn + 1 } = .ok bytes { w with drawn := d2 } := by
      rw [run_choose]; split
      · exact ⟨_, _, rfl⟩
      · exact ⟨_, _, rfl⟩
    have hsz : (Extern.BytealgMakeNoZero.digits cap bytes #[]).size = cap := by rw [digits_size]; simp
    generalize hdg : Extern.BytealgMakeNoZero.digits cap bytes #[] = arr at hsz
    have hnone := hr.none_next
    have hr2 : HR P ρ h { w with drawn := d2 } := ⟨hr.dom, hr.obj, hr.inj, hr.glob⟩
    have hun : (underlying t).run P w = .ok (.slice e) w := run_underlying hu w
    refine ⟨.slice (some ⟨w.heap.size, 0, none⟩) n cap, World.app { w with drawn := d2 } (.cells arr e), ρ.add h.next (w.heap.size, 0, (2, arr.size)), ?_, ⟨?_, Nw.add (Nat.le_refl _), ?_⟩, ?_⟩
    · change Sem.run P (α := Value) (do
        let some t := rs[0]? | stuck "bytealg.MakeNoZero: no result type"
        let .slice elem ← underlying t | stuck "bytealg.MakeNoZero: slice type expected"
        if (Int.ofNat n) < 0 || (Int.ofNat n) > 2 ^ 48 then runtimePanic (.error "makeslice: len out of range")
        let cap ← choose (.appendCap (Int.ofNat n).toNat 0 elem)
        askRoom cap
        let bytes ← choose (.extern "internal/bytealg.MakeNoZero.bytes" 0)
        let a ← newRow elem (Extern.BytealgMakeNoZero.digits cap bytes #[])
        pure (Value.slice (some a) (Int.ofNat n).toNat cap)) w = _
      simp only [hrs, Sem.run_bind, hun, Result.andThen_ok]
      have e0 : (decide ((n : Int) < 0) || decide ((n : Int) > 2 ^ 48)) = false := by simp; omega
      simp only [Int.ofNat_eq_natCast, e0, Bool.false_eq_true, if_false, Sem.run_bind, Sem.run_pure, Result.andThen_ok, Int.toNat_natCast, hch, run_askRoom, hch2, hdg, newRow, run_newObj]
      rfl
    · have := Mv.alloc (w := { w with drawn := d2 }) (ob := .cells arr e) (wl := (2, arr.size)) (h' := h.new (.row n .L e 2 false 1)) hnone (Nat.le_succ _) (fun y hy => by
        rw [H.get_new, if_neg]
        intro e'; subst e'; exact hy hnone)
      exact ⟨this.le, this.next, this.size, this.keep, this.wr, this.os⟩
    · refine hr2.alloc (o := .row n .L e 2 false 1) (ob := .cells arr e) hnone (Nat.lt_succ_self _) (Nat.le_succ _) (by rw [H.get_new, if_pos rfl]) (fun y hy => ?_) (show OR _ _ (2, arr.size) (.row n .L e 2 false 1) (.cells arr e) from ⟨rfl, arr, (0, 0), rfl, ⟨by omega, fun h0 => absurd h0 (by decide), fun i v _ hg => ?_, fun _ => .inl (by simp)⟩, fun _ => rfl⟩)
      · rw [H.get_new, if_neg]; intro e'; subst e'; exact hy hnone
      · cases i <;> cases hg
    · simp only [VR]
      exact ⟨w.heap.size, 0, (2, arr.size), _, cap, Ren.add_same, rfl, Nat.le_refl _, hcap, fun h => absurd h (by simp), fun z hz => by cases hz; rw [hsz]; simp, .inr rfl⟩
  · cases hk
end
end Go.Ev
/-
  ENGINE, PART 46: from the calculus without a fence, and to it.
-/
namespace Go.Ev
variable {P : Program}

theorem FW.fenced {F : Fence} (h : FW F) (m : Machine) : m.fenced P F := by
  intro g _
  refine ⟨fun e => (by rw [h.alive] at e; cases e), .inl (h.fn _), fun f _ => h.fn f, fun d hd => ?_⟩
  rw [h.depth] at hd; cases hd
theorem CallsIn.of_calls {F : Fence} (h : FW F) {n : Nat} {f : Nat} {args : Array Value} {w : World} {R : Ending → World → Prop} (c : Calls P f args w R) : CallsIn F n P f args w R :=
  ⟨h.fn f, fun cs _ => by
    obtain ⟨e, w', fr, r, s, x⟩ := c cs
    have conv : ∀ {m m' : Machine}, Steps P m m' → StepsIn (Machine.fenced P F) P m m' := fun s => (StepsIn.of_steps s).mono fun m _ => h.fenced m
    refine ⟨e, w', fr, r, ?_, x⟩
    cases e with
    | returned v => exact conv s
    | panicked chain => exact conv s
    | outgrown => exact s⟩
theorem FW.wide : FW Fence.wide := ⟨fun _ => trivial, rfl, rfl⟩
/-- a function with a body, by a contract of the calculus -/
theorem CallOk.of_calls {f : Nat} {args : List V} {h h' : H} {v : V} (he : ∀ (xs : Array Value) (w : World), (callFunc f xs).run P w = .ok (.enter f xs) w)
    (hc : ∀ (ρ : Ren) (w : World) (xs : Array Value), HR P ρ h w → VRL ρ args xs.toList → Calls P f xs w (Ends P ρ h w v h')) : CallOk P f args h v h' :=
  .inl ⟨he, fun F n ρ w xs hF _ hr hv => CallsIn.of_calls hF (hc ρ w xs hr hv)⟩
/-- what the evaluator answers, as a contract of the calculus -/
theorem calls_of {f : Nat} {fn : Func} {c : Code} (hN : NoNum P) (hf : P.funcs[f]? = some fn) (hb : fn.body = some c) {args : List V} {h h' : H} {v : V} (hc : CallOk P f args h v h') {ρ : Ren} {w : World} {xs : Array Value} (hr : HR P ρ h w) (hv : VRL ρ args xs.toList) :
    Calls P f xs w (Ends P ρ h w v h') := by
  have g := hc.form hN hf hb
  exact (callsIn_wide (n := 0)).1 (g Fence.wide 0 ρ w xs FW.wide rfl hr hv)
end Go.Ev
/-
  ENGINE, PART 47: what a call answers at values without an address, once and for all heaps.
-/
namespace Go.Ev
variable {P : Program}

/-- a heap of nothing but rows that are only read -/
structure Flat0 (P : Program) (h0 : H) : Prop where
  ok : h0.ok
  next : h0.next = P.globals.size
  row : ∀ b o, h0.get b = some o → ∃ n cs e fz, o = .row n cs e 0 true fz ∧ ∀ i v, i < n → cs.get i = some v → v.flat = true
/-- the cells of a row, each as in the other -/
noncomputable def cellsIn (cs cs' : T V) : Nat → Bool := Nat.rec (motive := fun _ => Bool) true fun i ih =>
  bsel ih (Option.rec (motive := fun _ => Bool) true (fun v => Option.rec (motive := fun _ => Bool) false (fun v' => v.beq v') (cs'.get i)) (cs.get i)) false
theorem cellsIn_true {cs cs' : T V} : ∀ {n : Nat}, cellsIn cs cs' n = true → ∀ i v, i < n → cs.get i = some v → cs'.get i = some v
  | 0, _, i, v, hi, _ => by omega
  | n + 1, h, i, v, hi, hv => by
    have h' : bsel (cellsIn cs cs' n) (Option.rec (motive := fun _ => Bool) true (fun v => Option.rec (motive := fun _ => Bool) false (fun v' => v.beq v') (cs'.get n)) (cs.get n)) false = true := h
    rw [bsel_eq] at h'
    split at h'
    · rename_i h1
      by_cases e : i = n
      · subst e
        rw [hv] at h'
        cases h2 : cs'.get i with
        | none => rw [h2] at h'; cases h'
        | some v' => rw [h2] at h'; rw [V.beq_sound v v' h']
      · exact cellsIn_true h1 i v (by omega) hv
    · cases h'
/-- one heap's row is in the other -/
noncomputable def rowIn (h0 h : H) (b : Nat) : Bool := Option.rec (motive := fun _ => Bool) true (fun _ => rowK h0 b fun n cs e w ro fz => rowK h b fun n' cs' e' w' ro' fz' => bg (Nat.beq n n') (bg (Nat.beq e e') (bg (Nat.beq w w') (bg ro' (bg ro (cellsIn cs cs' n)))))) (h0.get b)
noncomputable def rowsIn (h0 h : H) : Nat → Bool := Nat.rec (motive := fun _ => Bool) true fun b ih => bsel ih (rowIn h0 h b) false
theorem rowsIn_true {h0 h : H} : ∀ {n : Nat}, rowsIn h0 h n = true → ∀ b, b < n → rowIn h0 h b = true
  | 0, _, b, hb => by omega
  | n + 1, k, b, hb => by
    have k' : bsel (rowsIn h0 h n) (rowIn h0 h n) false = true := k
    rw [bsel_eq] at k'
    split at k'
    · rename_i k1
      by_cases e : b = n
      · subst e; exact k'
      · exact rowsIn_true k1 b (by omega)
    · cases k'
noncomputable def Ren.base (P : Program) (ρ : Ren) : Ren := fun b => if b < P.globals.size then ρ b else none
theorem HR.base {ρ : Ren} {h0 h : H} {w : World} (hr : HR P ρ h w) (f0 : Flat0 P h0) (hin : rowsIn h0 h P.globals.size = true) : HR P (ρ.base P) h0 w := by
  have get : ∀ b x, ρ.base P b = some x → b < P.globals.size ∧ ρ b = some x := fun b x hb => by
    unfold Ren.base at hb
    split at hb
    · rename_i h; exact ⟨h, hb⟩
    · cases hb
  refine ⟨fun b c s wl hb => ?_, fun b c s wl o hb hg => ?_, fun b b' c s wl s' wl' o o' hb hb' hg hg' => .inr ?_, fun g hg => ?_⟩
  · obtain ⟨h1, h2⟩ := get _ _ hb
    exact ⟨by rw [f0.next]; exact h1, (hr.dom _ _ _ _ h2).2⟩
  · obtain ⟨h1, h2⟩ := get _ _ hb
    have hwl : wl = (0, 0) := by have := hr.glob b h1; rw [this] at h2; cases h2; rfl
    obtain ⟨n, cs, e, fz, rfl, hflat⟩ := f0.row _ _ hg
    have hri := rowsIn_true hin b h1
    unfold rowIn at hri
    rw [hg] at hri
    obtain ⟨n1, cs1, e1, w1, ro1, fz1, hg1, hri⟩ := rowK_true.1 (show rowK h0 b _ = true from hri)
    rw [hg] at hg1; cases hg1
    obtain ⟨n2, cs2, e2, w2, ro2, fz2, hg2, hri⟩ := rowK_true.1 hri
    obtain ⟨k1, hri⟩ := bg_true.1 hri
    obtain ⟨k2, hri⟩ := bg_true.1 hri
    obtain ⟨k3, hri⟩ := bg_true.1 hri
    obtain ⟨k4, hri⟩ := bg_true.1 hri
    obtain ⟨_, hri5⟩ := bg_true.1 hri
    clear hri
    rw [nbeq, decide_eq_true_iff] at k1 k2 k3
    subst k1; subst k2; subst k3; subst k4
    obtain ⟨ob, o1, hwi, arr, fr, rfl, hrow, hsz⟩ := hr.obj _ _ _ _ _ h2 hg2
    refine ⟨_, o1, hwi, arr, fr, rfl, ⟨hrow.fits, fun _ h => (by cases h), fun i v hi hv => ?_, fun h => (by cases h)⟩, hsz⟩
    obtain ⟨x, hx, hvx⟩ := hrow.cell i v hi (cellsIn_true hri5 i v hi hv)
    exact ⟨x, hx, VR.flat v x (hflat i v hi hv) hvx⟩
  · obtain ⟨_, _, _, _, rfl, _⟩ := f0.row _ _ hg
    obtain ⟨_, _, _, _, rfl, _⟩ := f0.row _ _ hg'
    exact ⟨rfl, rfl⟩
  · unfold Ren.base; rw [if_pos hg]; exact hr.glob g hg
/-- behind a call that knew nothing but such rows -/
theorem Aft.base {ρ ρ' : Ren} {h0 h h' : H} {w w' : World} (hr : HR P ρ h w) (f0 : Flat0 P h0) (a : Aft P (ρ.base P) h0 w h' ρ' w') : Aft P ρ h w h ρ w' := by
  have keep : ∀ c, c < w.heap.size → w'.heap[c]? = w.heap[c]? := fun c hc => a.mv.keep c hc fun b s wl o _ hg => by
    obtain ⟨_, _, _, _, rfl, _⟩ := f0.row _ _ hg; rfl
  refine ⟨⟨.refl _, Nat.le_refl _, a.mv.size, fun c hc _ => keep c hc, fun b c s wl o hb hg hf _ => ⟨b, s, wl, o, hb, hg, hf⟩, a.mv.os⟩, Nw.refl _ _, ⟨fun b c s wl hb => ?_, fun b c s wl o hb hg => ?_, hr.inj, hr.glob⟩⟩
  · obtain ⟨h1, h2⟩ := hr.dom _ _ _ _ hb
    exact ⟨h1, Nat.lt_of_lt_of_le h2 a.mv.size⟩
  · obtain ⟨ob, h1, h2⟩ := hr.obj _ _ _ _ _ hb hg
    exact ⟨ob, by rw [keep c (hr.dom _ _ _ _ hb).2]; exact h1, h2⟩
theorem CallOk.at_ {f : Nat} {args : List V} {h0 h h' : H} {v : V} (c : CallOk P f args h0 v h') (f0 : Flat0 P h0) (ha : V.flatL args = true) (hv : v.flat = true) (hin : rowsIn h0 h P.globals.size = true) : CallOk P f args h v h := by
  rcases c with ⟨c1, c2⟩ | c
  · refine .inl ⟨c1, fun F n ρ w xs hF hro hr hargs => CallsIn.mono (F := F) (c2 F n (ρ.base P) w xs hF hro (hr.base f0 hin) (VRL.flat _ _ ha hargs)) fun e w' he => ?_⟩
    obtain ⟨x, ρ', rfl, haft, hx⟩ := he
    exact ⟨x, ρ, rfl, haft.base hr f0, VR.flat _ _ hv hx⟩
  · refine .inr fun ρ w xs hr hargs => ?_
    obtain ⟨x, w', ρ', e1, haft, hx⟩ := c (ρ.base P) w xs (hr.base f0 hin) (VRL.flat _ _ ha hargs)
    exact ⟨x, w', ρ, e1, haft.base hr f0, VR.flat _ _ hv hx⟩
/-- an oracle out of answers that were found once: arguments and answer -/
noncomputable def oTab (h0 : H) (g : Nat) (tab : List (List V × V)) : OF := fun args h k => List.rec (motive := fun _ => Bool) false (fun p _ ih => bsel (V.beqL p.1 args) (bg (rowsIn h0 h g) (k p.2 h)) ih) tab
theorem oTab_ok {f : Nat} {h0 : H} (f0 : Flat0 P h0) {tab : List (List V × V)} (ht : ∀ p ∈ tab, V.flatL p.1 = true ∧ p.2.flat = true ∧ ∃ h', CallOk P f p.1 h0 p.2 h') : OrcAt P f (oTab h0 P.globals.size tab) := by
  intro args h k hok hk
  induction tab with
  | nil => cases hk
  | cons p tab ih =>
    have hk' : bsel (V.beqL p.1 args) (bg (rowsIn h0 h P.globals.size) (k p.2 h)) (oTab h0 P.globals.size tab args h k) = true := hk
    rw [bsel_eq] at hk'
    split at hk'
    · rename_i he
      obtain ⟨h1, h2⟩ := bg_true.1 hk'
      obtain ⟨t1, t2, h', t3⟩ := ht p (by simp)
      have := V.beqL_sound _ _ he; subst this
      exact ⟨p.2, h, h2, hok, Ext.refl _, t3.at_ f0 t1 t2 h1⟩
    · exact ih (fun q hq => ht q (by simp [hq])) hk'
/-- what the evaluator finds -/
theorem found {orc : Orc} {n : Nat} (hs : SelfOk P 0 (run P orc n)) {f : Nat} {args : List V} {h0 : H} (hok : h0.ok) {v : V} (hk : (run P orc n).call f args h0 (fun v' _ => v'.beq v) = true) : ∃ h', CallOk P f args h0 v h' := by
  obtain ⟨v', h', h1, h2, h3, h4⟩ := hs.call f args h0 _ hok hk
  have := V.beq_sound v' v h1; subst this
  exact ⟨h', h4⟩
end Go.Ev
