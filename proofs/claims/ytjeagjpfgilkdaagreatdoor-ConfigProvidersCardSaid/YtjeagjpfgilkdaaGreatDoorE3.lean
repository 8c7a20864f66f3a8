/-
  AN ENGINE: a verified evaluator of the model's code on an abstract heap (part 4 of 8). Its laws are proved here, from the model's own; no condition.
-/
import Derived.Test.YtjeagjpfgilkdaaGreatDoorE2
import Derived.Laws.Strings
set_option linter.unusedVariables false
set_option linter.unusedSimpArgs false
/-
  ENGINE, PART 6: arithmetic, strings, '=='.
-/
namespace Go.Ev
variable {P : Program}

/-! ### strings as lists of numbers -/
theorem bytesOf_length (s : ByteArray) : (bytesOf s).length = s.size := by unfold bytesOf; rw [List.length_map]; rfl
theorem bytesOf_inj {a b : ByteArray} : bytesOf a = bytesOf b ↔ a = b := by
  constructor
  · intro h
    have h2 : a.data.toList = b.data.toList := by
      have := congrArg (List.map UInt8.ofNat) h
      simpa [bytesOf, List.map_map, Function.comp_def] using this
    obtain ⟨⟨x⟩⟩ := a; obtain ⟨⟨y⟩⟩ := b; simp at h2; rw [h2]
  · rintro rfl; rfl
theorem bytesOf_append (a b : ByteArray) : bytesOf (a ++ b) = bytesOf a ++ bytesOf b := by simp [bytesOf]
theorem bytes_get (s : ByteArray) (i : Nat) : (bytesOf s)[i]? = (s[i]?).map UInt8.toNat := by
  simp only [bytesOf, List.getElem?_map]
  congr 1
  by_cases h : i < s.size
  · rw [getElem?_pos s i h, List.getElem?_eq_getElem (by simpa using h)]; rfl
  · rw [getElem?_neg s i h, List.getElem?_eq_none (by simpa using h)]
theorem bytes_lt (s : ByteArray) {c : Nat} (h : c ∈ bytesOf s) : c < 256 := by
  simp only [bytesOf, List.mem_map] at h
  obtain ⟨u, _, rfl⟩ := h; exact u.toNat_lt
theorem bytesLess_slt : ∀ (x y : List UInt8), Op.bytesLess x y = slt (x.map UInt8.toNat) (y.map UInt8.toNat)
  | [], [] => rfl
  | [], _ :: _ => rfl
  | _ :: _, [] => by simp [Op.bytesLess, slt_nil]
  | a :: x, b :: y => by
    rw [List.map_cons, List.map_cons, slt_cons, ← bytesLess_slt x y]
    simp only [Op.bytesLess]
    have e1 : decide (a < b) = decide (a.toNat < b.toNat) := by rw [decide_eq_decide]; exact UInt8.lt_iff_toNat_lt
    have e2 : (a == b) = decide (a.toNat = b.toNat) := by rw [Bool.eq_iff_iff]; simp [UInt8.toNat_inj]
    rw [e1, e2]
theorem eq_seq (a b : ByteArray) : (a.toList == b.toList) = seq (bytesOf a) (bytesOf b) := by
  rw [seq_eq, Bool.eq_iff_iff, beq_iff_eq, decide_eq_true_iff, bytesOf_inj, ByteArray.toList_eq, ByteArray.toList_eq]
  constructor
  · intro h
    obtain ⟨⟨x⟩⟩ := a; obtain ⟨⟨y⟩⟩ := b; simp at h; rw [h]
  · rintro rfl; rfl
theorem lt_slt (a b : ByteArray) : Op.bytesLess a.toList b.toList = slt (bytesOf a) (bytesOf b) := by
  rw [ByteArray.toList_eq, ByteArray.toList_eq]; exact bytesLess_slt _ _
theorem slt_total : ∀ (x y : List Nat), (!slt y x) = (slt x y || seq x y)
  | [], [] => rfl
  | [], b :: y => by rw [slt_nil]; rfl
  | a :: x, [] => by rw [slt_nil]; rfl
  | a :: x, b :: y => by
    rw [slt_cons, slt_cons, seq_eq]
    have := slt_total x y
    rw [seq_eq] at this
    by_cases h1 : a < b
    · have : ¬ b < a := by omega
      have : ¬ b = a := by omega
      simp [*]
    · by_cases h2 : b < a
      · have : ¬ a = b := by omega
        simp [*]
      · have : a = b := by omega
        subst this
        simp [*]

/-! ### numbers -/
theorem and_wrap (k : IntKind) (a b : Nat) : k.wrap (Int.ofNat (Nat.land a b)) = intBits .and k (Int.ofNat a) (Int.ofNat b) := by
  have h : (BitVec.ofInt k.bits (Int.ofNat a) &&& BitVec.ofInt k.bits (Int.ofNat b)).toNat = (a &&& b) % 2 ^ k.bits := by
    simp [Nat.and_mod_two_pow]
  simp only [intBits, h, IntKind.wrap]
  have : ((a &&& b : Nat) : Int) % (2 ^ k.bits : Int) = ((((a &&& b) % 2 ^ k.bits : Nat)) : Int) % (2 ^ k.bits : Int) := by
    have e : ((2 : Int) ^ k.bits) = ((2 ^ k.bits : Nat) : Int) := by simp
    rw [e, ← Int.natCast_emod, ← Int.natCast_emod, Nat.mod_mod]
  exact congrArg (fun m => if (k.signed && decide (m ≥ (2 ^ (k.bits - 1) : Int))) = true then m - (2 ^ k.bits : Int) else m) this
theorem or_wrap (k : IntKind) (a b : Nat) : k.wrap (Int.ofNat (Nat.lor a b)) = intBits .or k (Int.ofNat a) (Int.ofNat b) := by
  have h : (BitVec.ofInt k.bits (Int.ofNat a) ||| BitVec.ofInt k.bits (Int.ofNat b)).toNat = (a ||| b) % 2 ^ k.bits := by
    simp [Nat.or_mod_two_pow]
  simp only [intBits, h, IntKind.wrap]
  have : ((a ||| b : Nat) : Int) % (2 ^ k.bits : Int) = ((((a ||| b) % 2 ^ k.bits : Nat)) : Int) % (2 ^ k.bits : Int) := by
    have e : ((2 : Int) ^ k.bits) = ((2 ^ k.bits : Nat) : Int) := by simp
    rw [e, ← Int.natCast_emod, ← Int.natCast_emod, Nat.mod_mod]
  exact congrArg (fun m => if (k.signed && decide (m ≥ (2 ^ (k.bits - 1) : Int))) = true then m - (2 ^ k.bits : Int) else m) this
theorem xor_wrap (k : IntKind) (a b : Nat) : k.wrap (Int.ofNat (Nat.xor a b)) = intBits .xor k (Int.ofNat a) (Int.ofNat b) := by
  have h : (BitVec.ofInt k.bits (Int.ofNat a) ^^^ BitVec.ofInt k.bits (Int.ofNat b)).toNat = (a ^^^ b) % 2 ^ k.bits := by
    simp [Nat.xor_mod_two_pow]
  simp only [intBits, h, IntKind.wrap]
  have : ((a ^^^ b : Nat) : Int) % (2 ^ k.bits : Int) = ((((a ^^^ b) % 2 ^ k.bits : Nat)) : Int) % (2 ^ k.bits : Int) := by
    have e : ((2 : Int) ^ k.bits) = ((2 ^ k.bits : Nat) : Int) := by simp
    rw [e, ← Int.natCast_emod, ← Int.natCast_emod, Nat.mod_mod]
  exact congrArg (fun m => if (k.signed && decide (m ≥ (2 ^ (k.bits - 1) : Int))) = true then m - (2 ^ k.bits : Int) else m) this

/-- what an operation on two numbers yields -/
def IntRes (P : Program) (op : BinOp) (k k' : IntKind) (a b : Int) (v : V) : Prop :=
  ∃ r : Value, (∀ t w, (binOp op t (.int k a) (.int k' b)).run P w = .ok r w) ∧ ∀ ρ, VR ρ v r
theorem intOp_true {op : BinOp} {k k' : IntKind} {a b : Int} {f : V → Bool} (hs : isSh op = true ∨ k = k') (h : intOp op k a b f = true) : ∃ v, f v = true ∧ IntRes P op k k' a b v := by
  have i (n : Int) (h : f (.int k n) = true) (hr : ∀ t w, (binOp op t (.int k a) (.int k' b)).run P w = .ok (.int k n) w) : ∃ v, f v = true ∧ IntRes P op k k' a b v := ⟨_, h, _, hr, fun ρ => VR.int _ _⟩
  have bo (n : Bool) (h : f (.bool n) = true) (hr : ∀ t w, (binOp op t (.int k a) (.int k' b)).run P w = .ok (.bool n) w) : ∃ v, f v = true ∧ IntRes P op k k' a b v := ⟨_, h, _, hr, fun ρ => VR.bool _⟩
  cases op
  case shl =>
    change shlI k a b f = true at h
    cases b with
    | negSucc m => cases h
    | ofNat m =>
      have h2 : seeI (Ev.wrap k (imul a (Int.ofNat (Nat.pow 2 (minN m k.bits))))) (fun n => f (.int k n)) = true := h
      rw [seeI_eq, wrap_eq, imul_eq, minN_eq] at h2
      refine i _ h2 fun t w => ?_
      have hm : ¬ ((m : Int) < 0) := by omega
      simp [binOp, Op.shift, hm]
  case shr =>
    change shrI k a b f = true at h
    cases b with
    | negSucc m => cases h
    | ofNat m =>
      cases a with
      | ofNat a =>
        have h2 : f (.int k (Int.ofNat (Nat.div a (Nat.pow 2 (minN m k.bits))))) = true := h
        rw [minN_eq] at h2
        refine i _ h2 fun t w => ?_
        have hm : ¬ ((m : Int) < 0) := by omega
        have e : ((a : Int).fdiv (2 ^ (min m k.bits))) = ((a / 2 ^ min m k.bits : Nat) : Int) := by
          rw [Int.fdiv_eq_ediv_of_nonneg _ (Int.pow_nonneg (by omega))]; simp
        simp [binOp, Op.shift, hm, e]
        rfl
      | negSucc a =>
        have h2 : f (.int k ((Int.negSucc a).fdiv (2 ^ (minN m k.bits)))) = true := h
        rw [minN_eq] at h2
        refine i _ h2 fun t w => ?_
        have hm : ¬ ((m : Int) < 0) := by omega
        simp [binOp, Op.shift, hm]
  all_goals (obtain rfl : k = k' := by rcases hs with hs | hs; · cases hs
                                       · exact hs)
  case add =>
    change iV k (iadd a b) f = true at h
    rw [iV, seeI_eq, wrap_eq, iadd_eq] at h
    exact i _ h fun t w => by simp [binOp, Op.intArith]
  case sub =>
    change iV k (isub a b) f = true at h
    rw [iV, seeI_eq, wrap_eq, isub_eq] at h
    exact i _ h fun t w => by simp [binOp, Op.intArith]
  case mul =>
    change iV k (imul a b) f = true at h
    rw [iV, seeI_eq, wrap_eq, imul_eq] at h
    exact i _ h fun t w => by simp [binOp, Op.intArith]
  case quo =>
    change bsel (ieq b 0) false (iV k (iquo a b) f) = true at h
    rw [bsel_eq, ieq_eq] at h
    by_cases e : b = 0
    · simp [e] at h
    · simp only [e, decide_false, Bool.false_eq_true, if_false] at h
      rw [iV, seeI_eq, wrap_eq, iquo_eq] at h
      exact i _ h fun t w => by simp [binOp, Op.intDiv, e]
  case rem =>
    change bsel (ieq b 0) false (seeI (irem a b) fun n => f (.int k n)) = true at h
    rw [bsel_eq, ieq_eq] at h
    by_cases e : b = 0
    · simp [e] at h
    · simp only [e, decide_false, Bool.false_eq_true, if_false] at h
      rw [seeI_eq, irem_eq] at h
      exact i _ h fun t w => by simp [binOp, Op.intDiv, e]
  case and =>
    have h2 : f (.int k (intBits .and k a b)) = true := by
      change andI k a b f = true at h
      cases a <;> cases b <;> first | exact h | (rename_i m n; have h3 : f (.int k (Ev.wrap k (Int.ofNat (Nat.land m n)))) = true := h; rwa [wrap_eq, and_wrap] at h3)
    exact i _ h2 fun t w => by simp [binOp, Op.intBits, intBits]
  case or =>
    have h2 : f (.int k (intBits .or k a b)) = true := by
      change orI k a b f = true at h
      cases a <;> cases b <;> first | exact h | (rename_i m n; have h3 : f (.int k (Ev.wrap k (Int.ofNat (Nat.lor m n)))) = true := h; rwa [wrap_eq, or_wrap] at h3)
    exact i _ h2 fun t w => by simp [binOp, Op.intBits, intBits]
  case xor =>
    have h2 : f (.int k (intBits .xor k a b)) = true := by
      change xorI k a b f = true at h
      cases a <;> cases b <;> first | exact h | (rename_i m n; have h3 : f (.int k (Ev.wrap k (Int.ofNat (Nat.xor m n)))) = true := h; rwa [wrap_eq, xor_wrap] at h3)
    exact i _ h2 fun t w => by simp [binOp, Op.intBits, intBits]
  case andNot =>
    change f (.int k (intBits .andNot k a b)) = true at h
    exact i _ h fun t w => by simp [binOp, Op.intBits, intBits]
  case eql =>
    change f (.bool (ieq a b)) = true at h
    rw [ieq_eq] at h
    exact bo _ h fun t w => by simp [binOp, Op.intCmp]; rfl
  case neq =>
    change f (.bool (!ieq a b)) = true at h
    rw [ieq_eq] at h
    exact bo _ h fun t w => by simp [binOp, Op.intCmp, bne]; rfl
  case lss =>
    change f (.bool (ilt a b)) = true at h
    rw [ilt_eq] at h
    exact bo _ h fun t w => by simp [binOp, Op.intCmp]
  case leq =>
    change f (.bool (!ilt b a)) = true at h
    rw [ilt_eq] at h
    exact bo _ h fun t w => by simp [binOp, Op.intCmp, ← decide_not]
  case gtr =>
    change f (.bool (ilt b a)) = true at h
    rw [ilt_eq] at h
    exact bo _ h fun t w => by simp [binOp, Op.intCmp]
  case geq =>
    change f (.bool (!ilt a b)) = true at h
    rw [ilt_eq] at h
    exact bo _ h fun t w => by simp [binOp, Op.intCmp, ← decide_not]
end Go.Ev
/-
  ENGINE, PART 7: strings, '==', and the other operations that only compute.
-/
namespace Go.Ev
variable {P : Program}

theorem strOp_true {op : BinOp} {a b : List Nat} {f : V → Bool} (h : strOp op a b f = true) : ∃ v, f v = true ∧ ∀ (x y : ByteArray), bytesOf x = a → bytesOf y = b →
    ∃ r : Value, (∀ t w, (binOp op t (.string x) (.string y)).run P w = .ok r w) ∧ ∀ ρ, VR ρ v r := by
  have bo (n : Bool) (h : f (.bool n) = true) (hr : ∀ (x y : ByteArray), bytesOf x = a → bytesOf y = b → ∀ t w, (binOp op t (.string x) (.string y)).run P w = .ok (.bool n) w) :
      ∃ v, f v = true ∧ ∀ (x y : ByteArray), bytesOf x = a → bytesOf y = b → ∃ r : Value, (∀ t w, (binOp op t (.string x) (.string y)).run P w = .ok r w) ∧ ∀ ρ, VR ρ v r :=
    ⟨_, h, fun x y hx hy => ⟨_, hr x y hx hy, fun ρ => VR.bool _⟩⟩
  cases op
  case add =>
    change bg (Nat.ble (Nat.add (len a 0) (len b 0)) 9223372036854775807) (f (.str (app a b))) = true at h
    obtain ⟨h1, h2⟩ := bg_true.1 h
    rw [nble, len0, len0, decide_eq_true_iff] at h1
    rw [app_eq] at h2
    refine ⟨_, h2, fun x y hx hy => ⟨.string (x ++ y), fun t w => ?_, fun ρ => VR.str _ (by rw [bytesOf_append, hx, hy])⟩⟩
    have e : ¬ (((x.size + y.size : Nat) : Int) > IntKind.i64.max) := by
      have h1' : a.length + b.length ≤ 9223372036854775807 := h1
      rw [← hx, ← hy, bytesOf_length, bytesOf_length] at h1'
      simp only [IntKind.max, IntKind.signed, IntKind.bits]; simp; omega
    simp only [binOp, Op.stringOp]
    rw [if_neg e]; rfl
  case eql =>
    change f (.bool (seq a b)) = true at h
    exact bo _ h fun x y hx hy t w => by simp only [binOp, Op.stringOp, eq_seq, hx, hy]; rfl
  case neq =>
    change f (.bool (!seq a b)) = true at h
    exact bo _ h fun x y hx hy t w => by simp only [binOp, Op.stringOp, eq_seq, hx, hy]; rfl
  case lss =>
    change f (.bool (slt a b)) = true at h
    exact bo _ h fun x y hx hy t w => by simp only [binOp, Op.stringOp, lt_slt, hx, hy]; rfl
  case leq =>
    change f (.bool (!slt b a)) = true at h
    exact bo _ h fun x y hx hy t w => by simp only [binOp, Op.stringOp, lt_slt, eq_seq, hx, hy, slt_total]; rfl
  case gtr =>
    change f (.bool (slt b a)) = true at h
    refine bo _ h fun x y hx hy t w => ?_
    simp only [binOp, Op.stringOp, lt_slt, eq_seq, hx, hy, ← slt_total, Bool.not_not]; rfl
  case geq =>
    change f (.bool (!slt a b)) = true at h
    exact bo _ h fun x y hx hy t w => by simp only [binOp, Op.stringOp, lt_slt, hx, hy]; rfl
  all_goals cases h

/-! ### '==' -/
theorem ek_true {n t : Nat} {k : Bool} (h : ek P n t k = true) : ekT P t = n ∧ k = true := by
  obtain ⟨h1, h2⟩ := bg_true.1 h
  rw [nbeq, decide_eq_true_iff] at h1; exact ⟨h1, h2⟩
theorem ekT_und {t n : Nat} (h : ekT P t = n) (hn : n ≠ 0) : ∃ d, P.underlying t = some d ∧ (match n, d with
    | 1, .bool | 2, .int _ | 3, .string | 5, .slice _ | 6, .map _ _ | 7, .func _ _ _ | 8, .interface _ => True
    | 4, .pointer e => ∃ m, sizeT P e = some (m + 1)
    | _, _ => False) := by
  unfold ekT at h
  split at h <;> try (subst h; exact absurd rfl hn)
  all_goals first
    | (rename_i hu; subst h; exact ⟨_, hu, trivial⟩)
    | skip
  rename_i e hu
  split at h
  · rename_i m hm; subst h; exact ⟨_, hu, m, hm⟩
  · subst h; exact absurd rfl hn
/-- what a look for equality promises -/
def EqOk (P : Program) (d : Nat) (t : Nat) (x y : V) (r : Bool) : Prop := ∀ (ρ : Ren) (a b : Value) (w : World), VR ρ x a → VR ρ y b → (Op.equalIn d t a b).run P w = .ok r w
theorem part_run {t : Nat} {cs : List V} {off : Nat} {k : V → Bool} (h : partK P cs off t k = true) : ∃ v, k v = true ∧ ∀ (ρ : Ren) (arr : Array Value) (w : World), VRL ρ cs arr.toList → ∃ x, (part t arr off).run P w = .ok x w ∧ VR ρ v x := by
  unfold partK at h
  obtain ⟨a, ha, h⟩ := og_true.1 h
  rw [bsel_eq] at h
  cases a with
  | true =>
    simp only [if_true] at h
    obtain ⟨sz, hsz, hk⟩ := og_true.1 h
    refine ⟨_, hk, fun ρ arr w hl => ⟨.agg (arr.extract off (off + sz)), ?_, ?_⟩⟩
    · simp only [part, Sem.run_bind, run_aggT ha, Result.andThen_ok, if_true, run_sizeT hsz]; rfl
    · simp only [VR]
      refine ⟨_, rfl, ?_⟩
      rw [sub_eq]
      have e : (arr.extract off (off + sz)).toList = (arr.toList.drop off).take sz := by simp
      rw [e]; exact hl.sub off sz
  | false =>
    simp only [Bool.false_eq_true, if_false] at h
    obtain ⟨v, hv, hk⟩ := og_true.1 h
    rw [nth_eq] at hv
    refine ⟨v, hk, fun ρ arr w hl => ?_⟩
    obtain ⟨x, hx, hr⟩ := hl.get hv
    refine ⟨x, ?_, hr⟩
    simp only [part, Sem.run_bind, run_aggT ha, Result.andThen_ok, Bool.false_eq_true, if_false]
    have : arr[off]? = some x := by simpa using hx
    rw [this]; rfl
theorem eqFs_true {eq : Nat → V → V → (Bool → Bool) → Bool} {d : Nat} (heq : ∀ t x y k, eq t x y k = true → ∃ r, k r = true ∧ EqOk P d t x y r) {xs ys : List V} {k : Bool → Bool} :
    ∀ {fs : List Field}, eqFs P eq xs ys k fs = true → ∃ r, k r = true ∧ ∀ (ρ : Ren) (a b : Array Value) (w : World), VRL ρ xs a.toList → VRL ρ ys b.toList → (Op.eqFields d a b fs).run P w = .ok r w
  | [], h => ⟨true, h, fun ρ a b w _ _ => rfl⟩
  | f :: fs, h => by
    have e : eqFs P eq xs ys k (f :: fs) = bsel (f.name == "_") (eqFs P eq xs ys k fs) (og (aggT P f.type) fun a => bsel a
        (og (sizeT P f.type) fun sz => eq f.type (.agg (sub xs f.offset sz)) (.agg (sub ys f.offset sz)) fun r => bsel r (eqFs P eq xs ys k fs) (k false))
        (og (nth xs f.offset) fun x => og (nth ys f.offset) fun y => eq f.type x y fun r => bsel r (eqFs P eq xs ys k fs) (k false))) := rfl
    rw [e, bsel_eq] at h
    by_cases hf : f.name = "_"
    · simp only [hf, beq_self_eq_true, if_true] at h
      obtain ⟨r, hr, hgo⟩ := eqFs_true heq h
      exact ⟨r, hr, fun ρ a b w hx hy => by simp only [Op.eqFields, hf, ne_eq, not_true_eq_false, if_false]; exact hgo ρ a b w hx hy⟩
    · have hf' : (f.name == "_") = false := by simpa using hf
      simp only [hf', Bool.false_eq_true, if_false] at h
      -- the two parts, and what follows
      have fin : ∀ (x y : V) (k2 : Bool → Bool), (∀ r, k2 r = bsel r (eqFs P eq xs ys k fs) (k false)) → eq f.type x y k2 = true →
          (∀ (ρ : Ren) (a : Array Value) (w : World), VRL ρ xs a.toList → ∃ v, (part f.type a f.offset).run P w = .ok v w ∧ VR ρ x v) →
          (∀ (ρ : Ren) (a : Array Value) (w : World), VRL ρ ys a.toList → ∃ v, (part f.type a f.offset).run P w = .ok v w ∧ VR ρ y v) →
          ∃ r, k r = true ∧ ∀ (ρ : Ren) (a b : Array Value) (w : World), VRL ρ xs a.toList → VRL ρ ys b.toList → (Op.eqFields d a b (f :: fs)).run P w = .ok r w := by
        intro x y k2 hk2 hq px py
        obtain ⟨r, hr, hok⟩ := heq _ _ _ _ hq
        rw [hk2, bsel_eq] at hr
        cases r with
        | true =>
          simp only [if_true] at hr
          obtain ⟨r, hr, hgo⟩ := eqFs_true heq hr
          refine ⟨r, hr, fun ρ a b w hx hy => ?_⟩
          obtain ⟨va, ea, ra⟩ := px ρ a w hx
          obtain ⟨vb, eb, rb⟩ := py ρ b w hy
          simp only [Op.eqFields, ne_eq, hf, not_false_eq_true, if_true, Sem.run_bind, ea, eb, Result.andThen_ok, hok ρ va vb w ra rb, Bool.not_true, Bool.false_eq_true, if_false]
          exact hgo ρ a b w hx hy
        | false =>
          simp only [Bool.false_eq_true, if_false] at hr
          refine ⟨false, hr, fun ρ a b w hx hy => ?_⟩
          obtain ⟨va, ea, ra⟩ := px ρ a w hx
          obtain ⟨vb, eb, rb⟩ := py ρ b w hy
          simp only [Op.eqFields, ne_eq, hf, not_false_eq_true, if_true, Sem.run_bind, ea, eb, Result.andThen_ok, hok ρ va vb w ra rb, Bool.not_false]
          rfl
      obtain ⟨ag, ha, h⟩ := og_true.1 h
      rw [bsel_eq] at h
      cases ag with
      | true =>
        simp only [if_true] at h
        obtain ⟨sz, hsz, h⟩ := og_true.1 h
        have px (zs : List V) (ρ : Ren) (a : Array Value) (w : World) (hl : VRL ρ zs a.toList) : ∃ v, (part f.type a f.offset).run P w = .ok v w ∧ VR ρ (.agg (sub zs f.offset sz)) v := by
          refine ⟨.agg (a.extract f.offset (f.offset + sz)), ?_, ?_⟩
          · simp only [part, Sem.run_bind, run_aggT ha, Result.andThen_ok, if_true, run_sizeT hsz]; rfl
          · simp only [VR]
            refine ⟨_, rfl, ?_⟩
            rw [sub_eq]
            have e : (a.extract f.offset (f.offset + sz)).toList = (a.toList.drop f.offset).take sz := by simp
            rw [e]; exact hl.sub f.offset sz
        exact fin _ _ _ (fun r => rfl) h (px xs) (px ys)
      | false =>
        simp only [Bool.false_eq_true, if_false] at h
        obtain ⟨x, hx, h⟩ := og_true.1 h
        obtain ⟨y, hy, h⟩ := og_true.1 h
        rw [nth_eq] at hx hy
        have px (zs : List V) (z : V) (hz : zs[f.offset]? = some z) (ρ : Ren) (a : Array Value) (w : World) (hl : VRL ρ zs a.toList) : ∃ v, (part f.type a f.offset).run P w = .ok v w ∧ VR ρ z v := by
          obtain ⟨v, hv, hr⟩ := hl.get hz
          refine ⟨v, ?_, hr⟩
          simp only [part, Sem.run_bind, run_aggT ha, Result.andThen_ok, Bool.false_eq_true, if_false]
          have : a[f.offset]? = some v := by simpa using hv
          rw [this]; rfl
        exact fin _ _ _ (fun r => rfl) h (px xs x hx) (px ys y hy)
end Go.Ev
/-
  ENGINE, PART 8: '==', the last part.
-/
namespace Go.Ev
variable {P : Program}

theorem addr_beq (c s o o' : Nat) : ((⟨c, s + o, none⟩ : Addr) == ⟨c, s + o', none⟩) = decide (o = o') := by
  rw [Bool.eq_iff_iff, decide_eq_true_iff]
  simp
theorem ek1 {t : Nat} (h : ekT P t = 1) : P.underlying t = some .bool := by
  obtain ⟨d, hu, hd⟩ := ekT_und h (by decide)
  cases d <;> first | exact hu | exact hd.elim
theorem ek2 {t : Nat} (h : ekT P t = 2) : ∃ k, P.underlying t = some (.int k) := by
  obtain ⟨d, hu, hd⟩ := ekT_und h (by decide)
  cases d <;> first | exact ⟨_, hu⟩ | exact hd.elim
theorem ek3 {t : Nat} (h : ekT P t = 3) : P.underlying t = some .string := by
  obtain ⟨d, hu, hd⟩ := ekT_und h (by decide)
  cases d <;> first | exact hu | exact hd.elim
theorem ek4 {t : Nat} (h : ekT P t = 4) : ∃ e m, P.underlying t = some (.pointer e) ∧ sizeT P e = some (m + 1) := by
  obtain ⟨d, hu, hd⟩ := ekT_und h (by decide)
  cases d <;> first | exact ⟨_, _, hu, hd.choose_spec⟩ | exact hd.elim
theorem ek5 {t : Nat} (h : ekT P t = 5) : ∃ e, P.underlying t = some (.slice e) := by
  obtain ⟨d, hu, hd⟩ := ekT_und h (by decide)
  cases d <;> first | exact ⟨_, hu⟩ | exact hd.elim
theorem ek6 {t : Nat} (h : ekT P t = 6) : ∃ k e, P.underlying t = some (.map k e) := by
  obtain ⟨d, hu, hd⟩ := ekT_und h (by decide)
  cases d <;> first | exact ⟨_, _, hu⟩ | exact hd.elim
theorem ek7 {t : Nat} (h : ekT P t = 7) : ∃ a b c, P.underlying t = some (.func a b c) := by
  obtain ⟨d, hu, hd⟩ := ekT_und h (by decide)
  cases d <;> first | exact ⟨_, _, _, hu⟩ | exact hd.elim
theorem ek8 {t : Nat} (h : ekT P t = 8) : ∃ a, P.underlying t = some (.interface a) := by
  obtain ⟨d, hu, hd⟩ := ekT_und h (by decide)
  cases d <;> first | exact ⟨_, hu⟩ | exact hd.elim
theorem eq1_true {eq : Nat → V → V → (Bool → Bool) → Bool} {d : Nat} (heq : ∀ t x y k, eq t x y k = true → ∃ r, k r = true ∧ EqOk P d t x y r) {t : Nat} {x y : V} {k : Bool → Bool}
    (h : eq1 P eq t x y k = true) : ∃ r, k r = true ∧ EqOk P (d + 1) t x y r := by
  cases x with
  | bool a =>
    obtain ⟨h1, h⟩ := ek_true (show ek P 1 t (vBool y fun b => k (a == b)) = true from h)
    obtain ⟨b, rfl, h2⟩ := vBool_true.1 h
    replace h := h2
    have hu := ek1 h1
    exact ⟨_, h, fun ρ va vb w ra rb => by rw [ra.bool_inv, rb.bool_inv]; simp only [Op.equalIn, Sem.run_bind, run_und hu, Result.andThen_ok]; rfl⟩
  | int j a =>
    obtain ⟨h1, h⟩ := ek_true (show ek P 2 t (vInt y fun j' b => bg (keq j j') (k (ieq a b))) = true from h)
    obtain ⟨j', b, rfl, h2⟩ := vInt_true.1 h
    obtain ⟨e, h3⟩ := bg_true.1 h2
    rw [keq_true] at e; subst e
    rw [ieq_eq] at h3
    replace h := h3
    obtain ⟨ik, hu⟩ := ek2 h1
    exact ⟨_, h, fun ρ va vb w ra rb => by rw [ra.int_inv, rb.int_inv]; simp only [Op.equalIn, Sem.run_bind, run_und hu, Result.andThen_ok, if_true]; rfl⟩
  | str a =>
    obtain ⟨h1, h⟩ := ek_true (show ek P 3 t (vStr y fun b => k (seq a b)) = true from h)
    obtain ⟨b, rfl, h2⟩ := vStr_true.1 h
    replace h := h2
    have hu := ek3 h1
    refine ⟨_, h, fun ρ va vb w ra rb => ?_⟩
    obtain ⟨sa, rfl, ea⟩ := ra.str_inv
    obtain ⟨sb, rfl, eb⟩ := rb.str_inv
    simp only [Op.equalIn, Sem.run_bind, run_und hu, Result.andThen_ok]
    rw [beq_toListBytes, eq_seq, ea, eb]; rfl
  | nilp =>
    obtain ⟨h1, h⟩ := ek_true (show ek P 4 t (onPtr y (k true) fun _ _ => k false) = true from h)
    obtain ⟨el, m, hu, hm⟩ := ek4 h1
    rcases onPtr_true.1 h with ⟨rfl, h⟩ | ⟨b, o, rfl, h⟩
    · exact ⟨_, h, fun ρ va vb w ra rb => by rw [ra.nilp_inv, rb.nilp_inv]; simp only [Op.equalIn, Sem.run_bind, run_und hu, Result.andThen_ok]; rfl⟩
    · refine ⟨_, h, fun ρ va vb w ra rb => ?_⟩
      obtain ⟨c, s, wl, _, rfl⟩ := rb.ptr_inv
      rw [ra.nilp_inv]; simp only [Op.equalIn, Sem.run_bind, run_und hu, Result.andThen_ok]; rfl
  | ptr b o =>
    obtain ⟨h1, h⟩ := ek_true (show ek P 4 t (onPtr y (k false) fun b' o' => bg (Nat.beq b b') (k (Nat.beq o o'))) = true from h)
    obtain ⟨el, m, hu, hm⟩ := ek4 h1
    rcases onPtr_true.1 h with ⟨rfl, h2⟩ | ⟨b', o', rfl, h2⟩ <;> replace h := h2
    · refine ⟨_, h, fun ρ va vb w ra rb => ?_⟩
      obtain ⟨c, s, wl, _, rfl⟩ := ra.ptr_inv
      rw [rb.nilp_inv]; simp only [Op.equalIn, Sem.run_bind, run_und hu, Result.andThen_ok]; rfl
    · obtain ⟨e, h3⟩ := bg_true.1 h2
      rw [nbeq, decide_eq_true_iff] at e; subst e
      rw [nbeq] at h3
      replace h := h3
      refine ⟨_, h, fun ρ va vb w ra rb => ?_⟩
      obtain ⟨c, s, wl, hr, rfl⟩ := ra.ptr_inv
      obtain ⟨c', s', wl', hr', rfl⟩ := rb.ptr_inv
      rw [hr] at hr'; cases hr'
      simp only [Op.equalIn, Sem.run_bind, run_und hu, Result.andThen_ok, run_sizeT hm, sameAddr]
      simp
      exact addr_beq c s o o'
  | nils =>
    obtain ⟨h1, h⟩ := ek_true (show ek P 5 t (onSl y (k true) fun _ _ _ _ => k false) = true from h)
    obtain ⟨el, hu⟩ := ek5 h1
    rcases onSl_true.1 h with ⟨rfl, h⟩ | ⟨b, o, l, c, rfl, h⟩
    · exact ⟨_, h, fun ρ va vb w ra rb => by rw [ra.nils_inv, rb.nils_inv]; simp only [Op.equalIn, Sem.run_bind, run_und hu, Result.andThen_ok]; rfl⟩
    · refine ⟨_, h, fun ρ va vb w ra rb => ?_⟩
      obtain ⟨_, _, _, _, _, _, rfl, _⟩ := rb.slice_inv
      rw [ra.nils_inv]; simp only [Op.equalIn, Sem.run_bind, run_und hu, Result.andThen_ok]; rfl
  | slice b o l c =>
    obtain ⟨h1, h⟩ := ek_true (show ek P 5 t (onSl y (k false) fun _ _ _ _ => false) = true from h)
    obtain ⟨el, hu⟩ := ek5 h1
    rcases onSl_true.1 h with ⟨rfl, h⟩ | ⟨b', o', l', c', rfl, h⟩
    · refine ⟨_, h, fun ρ va vb w ra rb => ?_⟩
      obtain ⟨_, _, _, _, _, _, rfl, _⟩ := ra.slice_inv
      rw [rb.nils_inv]; simp only [Op.equalIn, Sem.run_bind, run_und hu, Result.andThen_ok]; rfl
    · cases h
  | nilm =>
    obtain ⟨h1, h⟩ := ek_true (show ek P 6 t (onMap y (k true) fun _ => k false) = true from h)
    obtain ⟨kt, et, hu⟩ := ek6 h1
    rcases onMap_true.1 h with ⟨rfl, h⟩ | ⟨b, rfl, h⟩
    · exact ⟨_, h, fun ρ va vb w ra rb => by rw [ra.nilm_inv, rb.nilm_inv]; simp only [Op.equalIn, Sem.run_bind, run_und hu, Result.andThen_ok]; rfl⟩
    · refine ⟨_, h, fun ρ va vb w ra rb => ?_⟩
      obtain ⟨_, _, _, _, rfl⟩ := rb.map_inv
      rw [ra.nilm_inv]; simp only [Op.equalIn, Sem.run_bind, run_und hu, Result.andThen_ok]; rfl
  | map b =>
    obtain ⟨h1, h⟩ := ek_true (show ek P 6 t (onMap y (k false) fun _ => false) = true from h)
    obtain ⟨kt, et, hu⟩ := ek6 h1
    rcases onMap_true.1 h with ⟨rfl, h⟩ | ⟨b, rfl, h⟩
    · refine ⟨_, h, fun ρ va vb w ra rb => ?_⟩
      obtain ⟨_, _, _, _, rfl⟩ := ra.map_inv
      rw [rb.nilm_inv]; simp only [Op.equalIn, Sem.run_bind, run_und hu, Result.andThen_ok]; rfl
    · cases h
  | nilf =>
    obtain ⟨h1, h⟩ := ek_true (show ek P 7 t (onFn y (k true) (k false)) = true from h)
    obtain ⟨u1, u2, u3, hu⟩ := ek7 h1
    rcases onFn_true.1 h with ⟨rfl, h⟩ | ⟨⟨g, a, b, rfl⟩, h⟩
    · exact ⟨_, h, fun ρ va vb w ra rb => by rw [ra.nilf_inv, rb.nilf_inv]; simp only [Op.equalIn, Sem.run_bind, run_und hu, Result.andThen_ok]; rfl⟩
    · refine ⟨_, h, fun ρ va vb w ra rb => ?_⟩
      obtain ⟨_, _, _, rfl, _⟩ := rb.fn_inv
      rw [ra.nilf_inv]; simp only [Op.equalIn, Sem.run_bind, run_und hu, Result.andThen_ok]; rfl
  | fn g a b =>
    obtain ⟨h1, h⟩ := ek_true (show ek P 7 t (onFn y (k false) false) = true from h)
    obtain ⟨u1, u2, u3, hu⟩ := ek7 h1
    rcases onFn_true.1 h with ⟨rfl, h⟩ | ⟨⟨g, a, b, rfl⟩, h⟩
    · refine ⟨_, h, fun ρ va vb w ra rb => ?_⟩
      obtain ⟨_, _, _, rfl, _⟩ := ra.fn_inv
      rw [rb.nilf_inv]; simp only [Op.equalIn, Sem.run_bind, run_und hu, Result.andThen_ok]; rfl
    · cases h
  | nili =>
    obtain ⟨h1, h⟩ := ek_true (show ek P 8 t (onIf y (k true) fun _ _ => k false) = true from h)
    obtain ⟨ms, hu⟩ := ek8 h1
    rcases onIf_true.1 h with ⟨rfl, h⟩ | ⟨u, z, rfl, h⟩
    · exact ⟨_, h, fun ρ va vb w ra rb => by rw [ra.nili_inv, rb.nili_inv]; simp only [Op.equalIn, Sem.run_bind, run_und hu, Result.andThen_ok]; rfl⟩
    · refine ⟨_, h, fun ρ va vb w ra rb => ?_⟩
      obtain ⟨_, rfl, _⟩ := rb.iface_inv
      rw [ra.nili_inv]; simp only [Op.equalIn, Sem.run_bind, run_und hu, Result.andThen_ok]; rfl
  | iface u v =>
    obtain ⟨h1, h⟩ := ek_true (show ek P 8 t (onIf y (k false) fun u' w => bsel (Nat.beq u u') (og (cmpT P u) fun c => bg c (eq u v w k)) (k false)) = true from h)
    obtain ⟨ms, hu⟩ := ek8 h1
    rcases onIf_true.1 h with ⟨rfl, h2⟩ | ⟨u', z, rfl, h2⟩ <;> replace h := h2
    · refine ⟨_, h, fun ρ va vb w ra rb => ?_⟩
      obtain ⟨_, rfl, _⟩ := ra.iface_inv
      rw [rb.nili_inv]; simp only [Op.equalIn, Sem.run_bind, run_und hu, Result.andThen_ok]; rfl
    · rw [bsel_eq, nbeq] at h
      by_cases e : u = u'
      · subst e
        simp only [decide_true, if_true] at h
        obtain ⟨c, hc, h⟩ := og_true.1 h
        obtain ⟨rfl, h⟩ := bg_true.1 h
        obtain ⟨r, hr, hok⟩ := heq _ _ _ _ h
        refine ⟨r, hr, fun ρ va vb w ra rb => ?_⟩
        obtain ⟨xa, rfl, rxa⟩ := ra.iface_inv
        obtain ⟨xb, rfl, rxb⟩ := rb.iface_inv
        unfold cmpT at hc
        split at hc
        · rename_i inf hinf
          simp only [Option.some.injEq] at hc
          simp only [Op.equalIn, Sem.run_bind, run_und hu, Result.andThen_ok, ne_eq, not_true_eq_false, if_false, typeInfo, run_program, hinf, Sem.run_pure, hc, Bool.not_true, Bool.false_eq_true]
          exact hok ρ xa xb w rxa rxb
        · cases hc
      · simp only [e, decide_false, Bool.false_eq_true, if_false] at h
        refine ⟨_, h, fun ρ va vb w ra rb => ?_⟩
        obtain ⟨xa, rfl, rxa⟩ := ra.iface_inv
        obtain ⟨xb, rfl, rxb⟩ := rb.iface_inv
        simp only [Op.equalIn, Sem.run_bind, run_und hu, Result.andThen_ok, ne_eq, e, not_false_eq_true, if_true]; rfl
  | agg xs =>
    obtain ⟨ys, rfl, h⟩ := vAgg_true.1 (show vAgg y (fun ys => og (structFs P t) fun fs => eqFs P eq xs ys k fs) = true from h)
    obtain ⟨fs, hfs, h⟩ := og_true.1 h
    obtain ⟨r, hr, hgo⟩ := eqFs_true heq h
    refine ⟨r, hr, fun ρ va vb w ra rb => ?_⟩
    obtain ⟨aa, rfl, raa⟩ := ra.agg_inv
    obtain ⟨bb, rfl, rbb⟩ := rb.agg_inv
    unfold structFs at hfs
    split at hfs
    · rename_i fs' hu
      split at hfs
      · cases hfs
      · rename_i hs
        cases hfs
        have hfo : P.fieldsOf t = fs' := by simp [Program.fieldsOf, hu]
        rw [run_equalIn_struct w d t aa bb (by rw [hfo]; exact hu) (by simpa using hs), hfo]
        exact hgo ρ aa bb w raa rbb
    · cases hfs
  | tuple xs => cases h
theorem eqK_true {n : Nat} : ∀ {d t : Nat} {x y : V} {k : Bool → Bool}, n ≤ d → eqK P n t x y k = true → ∃ r, k r = true ∧ EqOk P d t x y r := by
  induction n with
  | zero => intro d t x y k _ h; cases h
  | succ n ih =>
    intro d t x y k hd h
    obtain ⟨d, rfl⟩ : ∃ e, d = e + 1 := ⟨d - 1, by omega⟩
    exact eq1_true (fun t x y k hk => ih (by omega) hk) (show eq1 P (eqK P n) t x y k = true from h)
/-- two operands and what 'op' makes of them -/
def BinOk (P : Program) (op : BinOp) (t : Nat) (x y : Operand) (a b v : V) : Prop := ∀ (ρ : Ren) (va vb : Value) (w : World), VR ρ a va → VR ρ b vb →
  (eqGuard op t x y va vb).run P w = .ok () w ∧ ∃ r, (binOp op t va vb).run P w = .ok r w ∧ VR ρ v r
theorem guard_other {op : BinOp} {t : Nat} {x y : Operand} {va vb : Value} (h1 : va ≠ .nilIface ∨ vb ≠ .nilIface) (h2 : (∀ c, va ≠ .agg c) ∨ ∀ c, vb ≠ .agg c) (w : World) : (eqGuard op t x y va vb).run P w = .ok () w := by
  cases va with
  | nilIface => cases vb with
    | nilIface => rcases h1 with h | h <;> exact absurd rfl h
    | _ => cases op <;> rfl
  | agg c => cases vb with
    | agg d => rcases h2 with h | h <;> exact absurd rfl (h _)
    | _ => cases op <;> rfl
  | _ => cases op <;> rfl
theorem guard_noteq {op : BinOp} (h : op ≠ .eql) (h' : op ≠ .neq) {t : Nat} {x y : Operand} {va vb : Value} (w : World) : (eqGuard op t x y va vb).run P w = .ok () w := by
  cases op <;> first | rfl | exact absurd rfl h | exact absurd rfl h'
theorem isC_eq (x : Operand) : isC x = (x matches .const _) := by cases x <;> rfl
theorem guard_nil {op : BinOp} {t : Nat} {x y : Operand} (h : (isC x || isC y) = true) (w : World) : (eqGuard op t x y .nilIface .nilIface).run P w = .ok () w := by
  cases x <;> cases y <;> first | (simp [isC] at h; done) | (cases op <;> rfl)
theorem guard_agg {op : BinOp} {t : Nat} {x y : Operand} {a b : Array Value} (h : P.eqGuardType P.depth t = false) (w : World) : (eqGuard op t x y (.agg a) (.agg b)).run P w = .ok () w := by
  cases op <;> first | rfl | simp [eqGuard, h, Sem.run_bind]
theorem guardOk_run {op : BinOp} {t : Nat} {x y : Operand} {a b : V} (h : guardOk P t (isC x || isC y) a b = true) {ρ : Ren} {va vb : Value} (ra : VR ρ a va) (rb : VR ρ b vb) (w : World) : (eqGuard op t x y va vb).run P w = .ok () w := by
  cases a with
  | agg c =>
    obtain ⟨aa, rfl, _⟩ := ra.agg_inv
    cases b with
    | agg d =>
      obtain ⟨bb, rfl, _⟩ := rb.agg_inv
      exact guard_agg (by simpa [guardOk] using h) w
    | _ =>
      refine guard_other (.inl (by simp)) (.inr fun c e => ?_) w
      subst e; simp [VR] at rb
  | nili =>
    rw [ra.nili_inv]
    cases b with
    | nili => rw [rb.nili_inv]; exact guard_nil (by simpa [guardOk] using h) w
    | _ =>
      refine guard_other (.inr fun e => ?_) (.inl (by simp)) w
      subst e; simp [VR] at rb
  | _ =>
    refine guard_other (.inl fun e => ?_) (.inl fun c e => ?_) w <;> (subst e; simp [VR] at ra)
def numV : V → Bool
  | .int .. | .str _ => true
  | _ => false
theorem binOp_eql {t : Nat} {va vb : Value} {v : V} {ρ : Ren} (hv : numV v = false) (ra : VR ρ v va) : binOp .eql t va vb = (do pure (.bool (← Op.equal t va vb))) ∧ binOp .neq t va vb = (do pure (.bool (!(← Op.equal t va vb)))) := by
  cases va <;> first | exact ⟨rfl, rfl⟩ | (cases v <;> first | (simp [VR] at ra; done) | cases hv)
theorem eqOp_true {op : BinOp} {t : Nat} {x y : Operand} {a b : V} {k : V → Bool} (hn : numV a = false) (h : eqOp P op t (isC x || isC y) a b k = true) : ∃ v, k v = true ∧ BinOk P op t x y a b v := by
  unfold eqOp at h
  split at h
  · obtain ⟨h1, h⟩ := bg_true.1 h
    obtain ⟨r, hr, hok⟩ := eqK_true (d := Op.maxDepth) (by decide) h
    refine ⟨_, hr, fun ρ va vb w ra rb => ⟨guardOk_run h1 ra rb w, .bool r, ?_, VR.bool _⟩⟩
    rw [(binOp_eql hn ra).1]
    simp only [Sem.run_bind, Op.equal, hok ρ va vb w ra rb, Result.andThen_ok]; rfl
  · obtain ⟨h1, h⟩ := bg_true.1 h
    obtain ⟨r, hr, hok⟩ := eqK_true (d := Op.maxDepth) (by decide) h
    refine ⟨_, hr, fun ρ va vb w ra rb => ⟨guardOk_run h1 ra rb w, .bool (!r), ?_, VR.bool _⟩⟩
    rw [(binOp_eql hn ra).2]
    simp only [Sem.run_bind, Op.equal, hok ρ va vb w ra rb, Result.andThen_ok]; rfl
  · cases h
theorem binK_true {op : BinOp} {t : Nat} {x y : Operand} {a b : V} {k : V → Bool} (h : binK P op t (isC x || isC y) a b k = true) : ∃ v, k v = true ∧ BinOk P op t x y a b v := by
  cases a with
  | int j n =>
    obtain ⟨j', m, rfl, h2⟩ := vInt_true.1 (show vInt b (fun j' m => bsel (isSh op) (intOp op j n m k) (bg (keq j j') (intOp op j n m k))) = true from h)
    have : (isSh op = true ∨ j = j') ∧ intOp op j n m k = true := by
      rw [bsel_eq] at h2
      split at h2
      · rename_i e; exact ⟨.inl e, h2⟩
      · obtain ⟨e, h3⟩ := bg_true.1 h2; exact ⟨.inr (keq_true.1 e), h3⟩
    obtain ⟨v, hv, hr⟩ := intOp_true (P := P) this.1 this.2
    refine ⟨v, hv, fun ρ va vb w ra rb => ?_⟩
    rw [ra.int_inv, rb.int_inv]
    obtain ⟨r, e1, e2⟩ := hr
    exact ⟨guard_other (.inl (by simp)) (.inl (by simp)) w, r, e1 t w, e2 ρ⟩
  | str s =>
    obtain ⟨s', rfl, h2⟩ := vStr_true.1 (show vStr b (fun s' => strOp op s s' k) = true from h)
    obtain ⟨v, hv, hr⟩ := strOp_true (P := P) h2
    refine ⟨v, hv, fun ρ va vb w ra rb => ?_⟩
    obtain ⟨ba, rfl, ea⟩ := ra.str_inv
    obtain ⟨bb, rfl, eb⟩ := rb.str_inv
    obtain ⟨r, e1, e2⟩ := hr ba bb ea eb
    exact ⟨guard_other (.inl (by simp)) (.inl (by simp)) w, r, e1 t w, e2 ρ⟩
  | _ => exact eqOp_true rfl h
theorem oBin_ok {op : BinOp} {t t' : Nat} {x y : Operand} {o : Oper} (ho : o.op = .binOp op t x y t') {tm : T V} {h : H} {k : KO} (hk : oBin P op t x y tm h k = true) : ∃ v, k v h yes = true ∧ Pure P o tm v := by
  obtain ⟨a, ha, hk⟩ := opdK_true.1 hk
  obtain ⟨b, hb, hk⟩ := opdK_true.1 hk
  obtain ⟨v, hv, hok⟩ := binK_true hk
  refine ⟨v, hv, fun ρ ev w hops => ?_⟩
  obtain ⟨h1, r, h2, h3⟩ := hok ρ (ev x) (ev y) w (hops x (by simp [ho, Op.operands]) a ha) (hops y (by simp [ho, Op.operands]) b hb)
  refine ⟨r, ?_, h3⟩
  simp only [execOp, ho, Sem.run_bind, h1, Result.andThen_ok, h2]; rfl
end Go.Ev
/-
  ENGINE, PART 9: the other operations that only compute.
-/
namespace Go.Ev
variable {P : Program}

/-! ### one operand -/
theorem unK_true {op : UnOp} {a : V} {k : V → Bool} (h : unK op a k = true) : ∃ v, k v = true ∧ ∀ (ρ : Ren) (x : Value) (w : World), VR ρ a x → ∃ r, (Op.unary op x).run P w = .ok r w ∧ VR ρ v r := by
  unfold unK at h
  split at h
  · obtain ⟨j, n, rfl, h2⟩ := vInt_true.1 h
    unfold iV at h2
    rw [seeI_eq, wrap_eq, isub_eq] at h2
    refine ⟨_, h2, fun ρ x w hx => ⟨_, ?_, VR.int _ _⟩⟩
    rw [hx.int_inv]
    rfl
  · obtain ⟨j, n, rfl, h2⟩ := vInt_true.1 h
    refine ⟨_, h2, fun ρ x w hx => ⟨_, ?_, VR.int _ _⟩⟩
    rw [hx.int_inv]
    rfl
  · obtain ⟨b, rfl, h2⟩ := vBool_true.1 h
    refine ⟨_, h2, fun ρ x w hx => ⟨_, ?_, VR.bool _⟩⟩
    rw [hx.bool_inv]
    rfl
  · cases h
theorem oUn_ok {op : UnOp} {t : Nat} {x : Operand} {o : Oper} (ho : o.op = .unOp op t x) {tm : T V} {h : H} {k : KO} (hk : oUn op x tm h k = true) : ∃ v, k v h yes = true ∧ Pure P o tm v := by
  obtain ⟨a, ha, hk⟩ := opdK_true.1 hk
  obtain ⟨v, hv, hok⟩ := unK_true (P := P) hk
  refine ⟨v, hv, fun ρ ev w hops => ?_⟩
  obtain ⟨r, h1, h2⟩ := hok ρ (ev x) w (hops x (by simp [ho, Op.operands]) a ha)
  exact ⟨r, by simp only [execOp, ho, Sem.run_bind, h1, Result.andThen_ok]; rfl, h2⟩
theorem oNil_ok {x : Operand} {o : Oper} (ho : o.op = .nilCheck x) {tm : T V} {h : H} {k : KO} (hk : oNil x tm h k = true) : ∃ v, k v h yes = true ∧ Pure P o tm v := by
  obtain ⟨a, ha, hk⟩ := opdK_true.1 hk
  have mem : x ∈ o.op.operands.toList := by simp [ho, Op.operands]
  rcases onNil_true.1 hk with ⟨b, p, rfl, h2⟩ | ⟨f, c, d, rfl, h2⟩ | ⟨t, v, rfl, h2⟩
  · refine ⟨_, h2, fun ρ ev w hops => ?_⟩
    have hx := hops x mem _ ha
    refine ⟨ev x, ?_, hx⟩
    obtain ⟨c, s, wl, _, e⟩ := hx.ptr_inv
    simp only [execOp, ho, e]; rfl
  · cases f with
    | func f =>
      refine ⟨_, h2, fun ρ ev w hops => ?_⟩
      have hx := hops x mem _ ha
      refine ⟨ev x, ?_, hx⟩
      obtain ⟨f', a', b', e, hf, _⟩ := hx.fn_inv
      simp only [FR] at hf
      subst hf
      simp only [execOp, ho, e]; rfl
    | _ => cases h2
  · refine ⟨_, h2, fun ρ ev w hops => ?_⟩
    have hx := hops x mem _ ha
    refine ⟨ev x, ?_, hx⟩
    obtain ⟨y, e, _⟩ := hx.iface_inv
    simp only [execOp, ho, e]; rfl
theorem oIface_ok {t : Nat} {x : Operand} {o : Oper} (ho : o.op = .makeInterface t x) {tm : T V} {h : H} {k : KO} (hk : oIface P t x tm h k = true) : ∃ v, k v h yes = true ∧ Pure P o tm v := by
  obtain ⟨i, hi, hk⟩ := og_true.1 hk
  rw [bsel_eq] at hk
  split at hk
  · cases hk
  · obtain ⟨a, ha, hk⟩ := opdK_true.1 hk
    refine ⟨_, hk, fun ρ ev w hops => ⟨.iface t (ev x), ?_, by simp only [VR]; exact ⟨_, rfl, hops x (by simp [ho, Op.operands]) a ha⟩⟩⟩
    unfold ifaceT at hi
    split at hi
    · cases hi; simp at *
    · rename_i d hd hu
      simp only [execOp, ho, Sem.run_bind, Instr.makeInterface, run_und hu, Result.andThen_ok]
      rfl
    · cases hi
theorem opds_mem {l m : List Operand} {ρ : Ren} {tm : T V} {ev : Operand → Value} (h : OpsR ρ tm ev l) (hs : ∀ x ∈ m, x ∈ l) {vs : List V} (hv : opdsV tm m = some vs) : VRL ρ vs (m.map ev) := (h.sub hs).list hv
theorem oFunc_ok {f : Fn} {a c : Array Operand} {o : Oper} (ho : o.op = .makeFunc f a c) {tm : T V} {h : H} {k : KO} (hk : oFunc f a.toList c.toList tm h k = true) : ∃ v, k v h yes = true ∧ Pure P o tm v := by
  obtain ⟨hf, hk⟩ := bg_true.1 hk
  obtain ⟨va, ha, hk⟩ := opdsK_true.1 hk
  obtain ⟨vc, hc, hk⟩ := opdsK_true.1 hk
  refine ⟨_, hk, fun ρ ev w hops => ⟨.func f (a.map ev) (c.map ev), ?_, ?_⟩⟩
  · simp only [execOp, ho, Instr.makeFunc]; rfl
  · simp only [VR]
    refine ⟨f, _, _, rfl, ?_, ?_, ?_⟩
    · cases f <;> first | rfl | cases hf
    · have := opds_mem hops (m := a.toList) (fun x hx => by simp only [ho, Op.operands]; simp at hx ⊢; exact .inl hx) ha; simpa using this
    · have := opds_mem hops (m := c.toList) (fun x hx => by simp only [ho, Op.operands]; simp at hx ⊢; exact .inr hx) hc; simpa using this

/-! ### places and parts -/
theorem und_struct_at {t f : Nat} {d : Nat × Nat} (h : fieldT P t f = some d) : ∃ (fs : Array Field) (fd : Field), P.underlying t = some (.struct fs) ∧ fs[f]? = some fd ∧ d = (fd.offset, fd.type) := by
  unfold fieldT at h
  split at h
  · rename_i fs hu
    split at h
    · rename_i fd hf; cases h; exact ⟨fs, fd, hu, hf, rfl⟩
    · cases h
  · cases h
theorem oFieldA_ok {t f : Nat} {x : Operand} {o : Oper} (ho : o.op = .fieldAddr t x f) {tm : T V} {h : H} {k : KO} (hk : oFieldA P t x f tm h k = true) : ∃ v, k v h yes = true ∧ Pure P o tm v := by
  obtain ⟨a, ha, hk⟩ := opdK_true.1 hk
  obtain ⟨b, p, rfl, hk⟩ := vPtr_true.1 hk
  obtain ⟨d, hd, hk⟩ := og_true.1 hk
  obtain ⟨sz, hsz, hk⟩ := og_true.1 hk
  cases sz with
  | zero => cases hk
  | succ sz =>
    refine ⟨_, hk, fun ρ ev w hops => ?_⟩
    obtain ⟨c, s, wl, hr, e⟩ := (hops x (by simp [ho, Op.operands]) _ ha).ptr_inv
    obtain ⟨fs, fd, hu, hf, rfl⟩ := und_struct_at hd
    refine ⟨.pointer (some ⟨c, s + (p + fd.offset), none⟩), ?_, VR.ptr _ hr⟩
    simp only [execOp, ho, Sem.run_bind, Instr.fieldAt, run_und hu, Result.andThen_ok, hf, e, Instr.sureAddr, Sem.run_pure, fieldPlace, run_sizeT hsz]
    simp [addr_add, Nat.add_assoc]
theorem oField_ok {t f : Nat} {x : Operand} {o : Oper} (ho : o.op = .field t x f) {tm : T V} {h : H} {k : KO} (hk : oField P t x f tm h k = true) : ∃ v, k v h yes = true ∧ Pure P o tm v := by
  obtain ⟨a, ha, hk⟩ := opdK_true.1 hk
  obtain ⟨cs, rfl, hk⟩ := vAgg_true.1 hk
  obtain ⟨d, hd, hk⟩ := og_true.1 hk
  obtain ⟨v, hv, hok⟩ := part_run hk
  refine ⟨v, hv, fun ρ ev w hops => ?_⟩
  obtain ⟨arr, e, hl⟩ := (hops x (by simp [ho, Op.operands]) _ ha).agg_inv
  obtain ⟨fs, fd, hu, hf, rfl⟩ := und_struct_at hd
  obtain ⟨r, h1, h2⟩ := hok ρ arr w hl
  refine ⟨r, ?_, h2⟩
  simp only [execOp, ho, Sem.run_bind, Instr.field, run_und hu, Result.andThen_ok, hf, e, asAgg, Sem.run_pure, h1]
theorem oExtract_ok {i : Nat} {x : Operand} {o : Oper} (ho : o.op = .extract x i) {tm : T V} {h : H} {k : KO} (hk : oExtract x i tm h k = true) : ∃ v, k v h yes = true ∧ Pure P o tm v := by
  obtain ⟨a, ha, hk⟩ := opdK_true.1 hk
  obtain ⟨cs, rfl, hk⟩ := vTup_true.1 hk
  obtain ⟨v, hv, hk⟩ := og_true.1 hk
  rw [nth_eq] at hv
  refine ⟨v, hk, fun ρ ev w hops => ?_⟩
  obtain ⟨arr, e, hl⟩ := (hops x (by simp [ho, Op.operands]) _ ha).tuple_inv
  obtain ⟨r, h1, h2⟩ := hl.get hv
  refine ⟨r, ?_, h2⟩
  have h1' : arr[i]? = some r := by simpa using h1
  simp only [execOp, ho, Sem.run_bind, Instr.extract, e, h1', Sem.run_pure, Result.andThen_ok]
theorem oIndexA_ok {t : Nat} {x i : Operand} {o : Oper} (ho : o.op = .indexAddr t x i) {tm : T V} {h : H} {k : KO} (hk : oIndexA P t x i tm h k = true) : ∃ v, k v h yes = true ∧ Pure P o tm v := by
  obtain ⟨vi, hi, hk⟩ := opdK_true.1 hk
  obtain ⟨j, i', rfl, hk⟩ := natK_true.1 hk
  obtain ⟨a, ha, hk⟩ := opdK_true.1 hk
  rcases onIx_true.1 hk with ⟨b, p, n, c, rfl, h2⟩ | ⟨b, p, rfl, h2⟩
  · obtain ⟨e, he, h2⟩ := og_true.1 h2
    obtain ⟨hn, h2⟩ := bg_true.1 h2
    rw [nblt, decide_eq_true_iff] at hn
    obtain ⟨sz, hsz, h2⟩ := og_true.1 h2
    refine ⟨_, h2, fun ρ ev w hops => ?_⟩
    have hix := (hops i (by simp [ho, Op.operands]) _ hi).int_inv
    obtain ⟨cc, s, wl, ad, cp', hr, ex, h3, h4, _, _, h5⟩ := (hops x (by simp [ho, Op.operands]) _ ha).slice_inv
    have hu := und_slice he
    have had : ad = ⟨cc, s + p, none⟩ := h5.resolve_left (by omega)
    subst had
    refine ⟨.pointer (some ⟨cc, s + (p + i' * sz), none⟩), ?_, VR.ptr _ hr⟩
    simp only [execOp, ho, Sem.run_bind, Instr.indexAt, hix, asIntOf, Sem.run_pure, Result.andThen_ok, run_und hu, ex]
    rw [if_pos ⟨by simp, by simpa using hn⟩]
    simp [Sem.run_bind, run_sizeT hsz, addr_add, Nat.add_assoc]
  · obtain ⟨d, hd, h2⟩ := og_true.1 h2
    obtain ⟨hn, h2⟩ := bg_true.1 h2
    rw [nblt, decide_eq_true_iff] at hn
    obtain ⟨sz, hsz, h2⟩ := og_true.1 h2
    refine ⟨_, h2, fun ρ ev w hops => ?_⟩
    have hix := (hops i (by simp [ho, Op.operands]) _ hi).int_inv
    obtain ⟨cc, s, wl, hr, ex⟩ := (hops x (by simp [ho, Op.operands]) _ ha).ptr_inv
    have hu := und_arr hd
    refine ⟨.pointer (some ⟨cc, s + (p + i' * sz), none⟩), ?_, VR.ptr _ hr⟩
    simp only [execOp, ho, Sem.run_bind, Instr.indexAt, hix, asIntOf, Sem.run_pure, Result.andThen_ok, run_und hu, ex, Instr.sureAddr]
    rw [if_pos ⟨by simp, by simpa using hn⟩]
    simp [Sem.run_bind, run_sizeT hsz, addr_add, Nat.add_assoc]
theorem oIndex_ok {t : Nat} {x i : Operand} {o : Oper} (ho : o.op = .index t x i) {tm : T V} {h : H} {k : KO} (hk : oIndex P t x i tm h k = true) : ∃ v, k v h yes = true ∧ Pure P o tm v := by
  obtain ⟨vi, hi, hk⟩ := opdK_true.1 hk
  obtain ⟨j, i', rfl, hk⟩ := natK_true.1 hk
  obtain ⟨a, ha, hk⟩ := opdK_true.1 hk
  rcases onStrAgg_true.1 hk with ⟨s, rfl, h2⟩ | ⟨cs, rfl, h2⟩
  · obtain ⟨ht, h2⟩ := bg_true.1 h2
    obtain ⟨c, hc, h2⟩ := og_true.1 h2
    rw [nth_eq] at hc
    refine ⟨_, h2, fun ρ ev w hops => ?_⟩
    have hix := (hops i (by simp [ho, Op.operands]) _ hi).int_inv
    obtain ⟨sa, ex, es⟩ := (hops x (by simp [ho, Op.operands]) _ ha).str_inv
    have hu : P.underlying t = some .string := by
      unfold isStrT at ht; split at ht
      · assumption
      · cases ht
    refine ⟨_, ?_, VR.int _ _⟩
    have hb : (sa[i']?).map UInt8.toNat = some c := by rw [← bytes_get, es]; exact hc
    obtain ⟨u, hu', rfl⟩ := Option.map_eq_some_iff.1 hb
    simp [execOp, ho, Sem.run_bind, Instr.index, hix, asIntOf, run_und hu, ex, hu']
  · obtain ⟨d, hd, h2⟩ := og_true.1 h2
    obtain ⟨hn, h2⟩ := bg_true.1 h2
    rw [nblt, decide_eq_true_iff] at hn
    obtain ⟨sz, hsz, h2⟩ := og_true.1 h2
    obtain ⟨v, hv, hok⟩ := part_run h2
    refine ⟨v, hv, fun ρ ev w hops => ?_⟩
    have hix := (hops i (by simp [ho, Op.operands]) _ hi).int_inv
    obtain ⟨arr, ex, hl⟩ := (hops x (by simp [ho, Op.operands]) _ ha).agg_inv
    have hu := und_arr hd
    obtain ⟨r, h1, h3⟩ := hok ρ arr w hl
    refine ⟨r, ?_, h3⟩
    simp only [execOp, ho, Sem.run_bind, Instr.index, hix, asIntOf, Sem.run_pure, Result.andThen_ok, run_und hu, ex]
    rw [if_pos ⟨by simp, by simpa using hn⟩]
    simp only [Sem.run_bind, run_sizeT hsz, Result.andThen_ok]
    have e1 : (Int.ofNat i').toNat * sz = Nat.mul i' sz := rfl
    rw [e1, h1]; rfl
end Go.Ev
/-
  ENGINE, PART 10: operations that look at memory and change nothing.
-/
namespace Go.Ev
variable {P : Program}

/-- a later heap that has only more -/
structure Ag (h hs : H) : Prop where
  next : h.next ≤ hs.next
  get : ∀ b, b < h.next → hs.get b = h.get b
theorem Ag.refl (h : H) : Ag h h := ⟨Nat.le_refl _, fun _ _ => rfl⟩
theorem Ag.trans {a b c : H} (h : Ag a b) (k : Ag b c) : Ag a c := ⟨Nat.le_trans h.next k.next, fun x hx => (k.get x (Nat.lt_of_lt_of_le hx h.next)).trans (h.get x hx)⟩
theorem Ag.new (h : H) (o : Ob) : Ag h (h.new o) := ⟨Nat.le_succ _, fun b hb => by rw [H.get_new, if_neg (by omega)]⟩
def H.ok (h : H) : Prop := ∀ b o, h.get b = some o → b < h.next
theorem H.ok.new {h : H} (hk : h.ok) (o : Ob) : (h.new o).ok := fun b x hb => by
  rw [H.get_new] at hb
  split at hb
  · subst_vars; exact Nat.lt_succ_self _
  · exact Nat.lt_succ_of_lt (hk b x hb)
theorem H.ok.put {h : H} (hk : h.ok) {b : Nat} {o : Option Ob} (hb : b < h.next) : (h.put b o).ok := fun x y hx => by
  rw [H.get_put] at hx
  split at hx
  · subst_vars; exact hb
  · exact hk x y hx
theorem Ag.some {h hs : H} (a : Ag h hs) (hk : h.ok) {b : Nat} {o : Ob} (hb : h.get b = some o) : hs.get b = some o := (a.get b (hk b o hb)).trans hb

/-- the operation yields a value and leaves the memory, in this heap and all that have more -/
def PureAt (P : Program) (o : Oper) (tm : T V) (v : V) (h : H) : Prop :=
  ∀ hs, Ag h hs → ∀ (ρ : Ren) (ev : Operand → Value) (w : World), OpsR ρ tm ev o.op.operands.toList → HR P ρ hs w → ∃ x, (execOp ev o).run P w = .ok (.value x) w ∧ VR ρ v x
theorem Pure.at {o : Oper} {tm : T V} {v : V} (h : Pure P o tm v) (h0 : H) : PureAt P o tm v h0 := fun _ _ ρ ev w hops _ => h ρ ev w hops

theorem HR.row {ρ : Ren} {h : H} {w : World} (hr : HR P ρ h w) {b c s n fz : Nat} {wl : Wl} {cs : T V} {e wi : Nat} {ro : Bool} (hb : ρ b = some (c, s, wl)) (hg : h.get b = some (.row n cs e wi ro fz)) :
    wi = wl.1 ∧ ∃ arr fr, w.heap[c]? = some (.cells arr e fr) ∧ RowR ρ n cs wi ro fz s arr fr ∧ (wl.1 ≠ 0 → arr.size = wl.2) := by
  obtain ⟨ob, h1, h2, arr, fr, rfl, h3, h4⟩ := hr.obj _ _ _ _ _ hb hg
  exact ⟨h2, arr, fr, h1, h3, h4⟩

/-! ### loads -/
def VAt (P : Program) (h : H) (f : Value → Sem Value) (p v : V) : Prop := ∀ hs, Ag h hs → ∀ (ρ : Ren) (w : World) (x : Value), HR P ρ hs w → VR ρ p x → ∃ y, (f x).run P w = .ok y w ∧ VR ρ v y
theorem loadK_true {t : Nat} {p : V} {h : H} {k : V → Bool} (hk : h.ok) (hl : loadK P t p h k = true) : ∃ v, k v = true ∧ VAt P h (Instr.loadAt t) p v := by
  obtain ⟨b, o, rfl, hl⟩ := vPtr_true.1 hl
  obtain ⟨n, cs, e, wi, ro, fz, hg, hl⟩ := rowK_true.1 hl
  obtain ⟨v, hv, hrun⟩ := loadRow_true hl
  refine ⟨v, hv, fun hs ha ρ w x hr hx => ?_⟩
  obtain ⟨c, s, wl, hb, rfl⟩ := hx.ptr_inv
  obtain ⟨_, arr, fr, hh, hrow, _⟩ := hr.row hb (ha.some hk hg)
  obtain ⟨y, h1, h2⟩ := hrun ρ w wi ro fz s c arr e fr hh hrow
  exact ⟨y, by simp only [Instr.loadAt, Instr.sureAddr, Sem.run_bind, Sem.run_pure, Result.andThen_ok, h1], h2⟩
theorem oLoad_ok {t : Nat} {a : Operand} {o : Oper} (ho : o.op = .load t a) {tm : T V} {h : H} {k : KO} (hok : h.ok) (hk : oLoad P t a tm h k = true) :
    ∃ v c, k v h c = true ∧ PureAt P o tm v h ∧ ∀ h2, h2.ok → c h2 = true → PureAt P o tm v h2 := by
  obtain ⟨p, hp, hk⟩ := opdK_true.1 hk
  have key : ∀ (h2 : H) (v : V), VAt P h2 (Instr.loadAt t) p v → PureAt P o tm v h2 := fun h2 v hv hs ha ρ ev w hops hr => by
    obtain ⟨y, h1, h3⟩ := hv hs ha ρ w _ hr (hops a (by simp [ho, Op.operands]) p hp)
    exact ⟨y, by simp only [execOp, ho, Sem.run_bind, h1, Result.andThen_ok]; rfl, h3⟩
  obtain ⟨v, hv, hrun⟩ := loadK_true hok hk
  refine ⟨v, _, hv, key _ _ hrun, fun h2 hok2 hc => ?_⟩
  obtain ⟨v', hv', hrun'⟩ := loadK_true hok2 hc
  have := V.beq_sound _ _ hv'; subst this
  exact key _ _ hrun'

/-! ### slices -/
theorem okZ_true {b l sz : Nat} {h : H} {k : Bool} (hz : okZ b l sz h k = true) : k = true ∧ (l = 0 ∨ ∃ n cs e wi ro fz, h.get b = some (.row n cs e wi ro fz) ∧ (wi = 0 ∨ wi = sz + 1)) := by
  cases l with
  | zero => exact ⟨hz, .inl rfl⟩
  | succ l =>
    obtain ⟨n, cs, e, wi, ro, fz, hg, h2⟩ := rowK_true.1 (show rowK h b (fun _ _ _ w _ _ => Nat.rec (motive := fun _ => Bool) k (fun z _ => bg (Nat.beq z sz) k) w) = true from hz)
    cases wi with
    | zero => exact ⟨h2, .inr ⟨n, cs, e, 0, ro, fz, hg, .inl rfl⟩⟩
    | succ z =>
      obtain ⟨h3, h4⟩ := bg_true.1 h2
      rw [nbeq, decide_eq_true_iff] at h3; subst h3
      exact ⟨h4, .inr ⟨n, cs, e, _, ro, fz, hg, .inr rfl⟩⟩
theorem opdO_true {x : Option Operand} {tm : T V} {k : Option V → Bool} (h : opdO x tm k = true) : (x = none ∧ k none = true) ∨ ∃ y v, x = some y ∧ opdV tm y = some v ∧ k (some v) = true := by
  cases x with
  | none => exact .inl ⟨rfl, h⟩
  | some y => obtain ⟨v, hv, hk⟩ := opdK_true.1 h; exact .inr ⟨y, v, rfl, hv, hk⟩
/-- a bound, on either side -/
def BR (ρ : Ren) : Option V → Option Value → Prop
  | none, x => x = none
  | some v, x => ∃ y, x = some y ∧ VR ρ v y
theorem sliceBound_run {j : IntKind} {h y : Nat} (hh : h ≤ y) (code : BoundsCode) (w : World) : (Instr.sliceBound (.int j (Int.ofNat h)) y code).run P w = .ok h w := by
  simp only [Instr.sliceBound, asIntOf, Sem.run_bind, Sem.run_pure, Result.andThen_ok]
  rw [if_pos ⟨by simp, by simp; omega⟩]; rfl
theorem boundK_true {lo hi : Option V} {n c : Nat} {k : Nat → Nat → Bool} (h : boundK lo hi n c k = true) : ∃ l hh, k l hh = true ∧ l ≤ hh ∧ hh ≤ c ∧
    ∀ (ρ : Ren) (xl xh : Option Value) (w : World) (is : Bool) (c' : Nat), c ≤ c' → BR ρ lo xl → BR ρ hi xh → (Instr.sliceBounds is n c' xl xh none).run P w = .ok (l, hh, c') w := by
  have hiStep : ∃ hh, (bg (Nat.ble hh c) (Option.rec (motive := fun _ => Bool) (k 0 hh) (fun v => natK v fun l => bg (Nat.ble l hh) (k l hh)) lo)) = true ∧ ((hi = none ∧ hh = n) ∨ ∃ j, hi = some (.int j (Int.ofNat hh))) := by
    cases hi with
    | none => exact ⟨n, h, .inl ⟨rfl, rfl⟩⟩
    | some v => obtain ⟨j, m, rfl, h2⟩ := natK_true.1 (show natK v _ = true from h); exact ⟨m, h2, .inr ⟨j, rfl⟩⟩
  obtain ⟨hh, h1, hhi⟩ := hiStep
  obtain ⟨h2, h3⟩ := bg_true.1 h1
  rw [nble, decide_eq_true_iff] at h2
  cases lo with
  | none =>
    refine ⟨0, hh, h3, Nat.zero_le _, h2, fun ρ xl xh w is c' hc hl hb => ?_⟩
    simp only [BR] at hl; subst hl
    rcases hhi with ⟨rfl, rfl⟩ | ⟨j, rfl⟩
    · simp only [BR] at hb; subst hb; rfl
    · obtain ⟨y, rfl, hy⟩ := hb
      rw [hy.int_inv]
      simp only [Instr.sliceBounds, Sem.run_bind, Sem.run_pure, Result.andThen_ok, sliceBound_run (P := P) (show hh ≤ c' by omega)]
  | some v =>
    obtain ⟨j, l, rfl, h4⟩ := natK_true.1 (show natK v _ = true from h3)
    obtain ⟨h5, h6⟩ := bg_true.1 h4
    rw [nble, decide_eq_true_iff] at h5
    refine ⟨l, hh, h6, h5, h2, fun ρ xl xh w is c' hc hl hb => ?_⟩
    obtain ⟨y, rfl, hy⟩ := hl
    rw [hy.int_inv]
    rcases hhi with ⟨rfl, rfl⟩ | ⟨j', rfl⟩
    · simp only [BR] at hb; subst hb
      simp only [Instr.sliceBounds, Sem.run_bind, Sem.run_pure, Result.andThen_ok, sliceBound_run (P := P) h5]
    · obtain ⟨y, rfl, hy⟩ := hb
      rw [hy.int_inv]
      simp only [Instr.sliceBounds, Sem.run_bind, Sem.run_pure, Result.andThen_ok, sliceBound_run (P := P) (show hh ≤ c' by omega), sliceBound_run (P := P) h5]
end Go.Ev
/-
  ENGINE, PART 11: parts of slices and strings, conversions, looks into maps.
-/
namespace Go.Ev
variable {P : Program}

theorem bytesOf_extract (s : ByteArray) (l h : Nat) : bytesOf (s.extract l h) = sub (bytesOf s) l (h - l) := by
  rw [sub_eq]
  unfold bytesOf
  rw [← List.map_drop, ← List.map_take, ByteArray.data_extract, Array.toList_extract]
theorem und_isStr {t : Nat} (h : isStrT P t = true) : P.underlying t = some .string := by
  unfold isStrT at h; split at h
  · assumption
  · cases h
theorem und_isSl {t : Nat} (h : isSlT P t = true) : ∃ e, P.underlying t = some (.slice e) := by
  unfold isSlT at h; split at h
  · rename_i e hu; exact ⟨e, hu⟩
  · cases h
theorem slice_len_exact {ρ : Ren} {w : Wl} {cp cp' : Nat} (h : w.1 = 0 → cp' = cp) (l : Nat) : w.1 = 0 → cp' - l = cp - l := fun e => by rw [h e]
/-- what a slice of something is -/
def SlAt (P : Program) (t : Nat) (x : V) (lo hi : Option V) (h : H) (v : V) : Prop := ∀ hs, Ag h hs → ∀ (ρ : Ren) (w : World) (y : Value) (yl yh : Option Value), HR P ρ hs w → VR ρ x y → BR ρ lo yl → BR ρ hi yh →
  ∃ r, (Instr.sliceAt t y yl yh none).run P w = .ok r w ∧ VR ρ v r
theorem slices_at {ρ : Ren} {h hs : H} (ha : Ag h hs) (hk : h.ok) {w : World} (hr : HR P ρ hs w) {b o l n c sz hh : Nat} {y : Value} (hx : VR ρ (.slice b o n c) y) (hl : l ≤ hh) (hc : hh ≤ c)
    (hz : l = 0 ∨ ∃ n cs e wi ro fz, h.get b = some (.row n cs e wi ro fz) ∧ (wi = 0 ∨ wi = sz + 1)) :
    ∃ a cp', y = .slice (some a) n cp' ∧ c ≤ cp' ∧ VR ρ (.slice b (o + l * sz) (hh - l) (c - l)) (.slice (if cp' = l then some a else (some a).map (·.add (l * sz))) (hh - l) (cp' - l)) := by
  obtain ⟨cc, s, wl, a, cp', hb, rfl, h1, h2, h3, h4, h5⟩ := hx.slice_inv
  refine ⟨a, cp', rfl, h2, ?_⟩
  simp only [VR]
  by_cases e : cp' = l
  · have e0 : cp' - l = 0 := by omega
    refine ⟨cc, s, wl, a, cp' - l, hb, by rw [if_pos e], by omega, by omega, slice_len_exact (ρ := ρ) h3 l, fun z hz' => ?_, .inl e0⟩
    rcases hz with rfl | ⟨n', cs, e', wi, ro, fz, hg, hw⟩
    · have := h4 z hz'; simpa using this
    · obtain ⟨hwi, _⟩ := hr.row hb (ha.some hk hg)
      rcases hw with rfl | rfl
      · rw [← hwi] at hz'; cases hz'
      · rw [← hwi] at hz'; cases hz'
        have := h4 sz (by rw [← hwi])
        rw [e0]; subst e; simpa [Nat.add_assoc] using this
  · have ha' : a = ⟨cc, s + o, none⟩ := h5.resolve_left (fun h0 => by omega)
    subst ha'
    refine ⟨cc, s, wl, ⟨cc, s + o + l * sz, none⟩, cp' - l, hb, by rw [if_neg e]; simp [addr_add], by omega, by omega, slice_len_exact (ρ := ρ) h3 l, fun z hz' => ?_, .inr (by simp [Nat.add_assoc])⟩
    rcases hz with rfl | ⟨n', cs, e', wi, ro, fz, hg, hw⟩
    · have := h4 z hz'; simpa using this
    · obtain ⟨hwi, _⟩ := hr.row hb (ha.some hk hg)
      rcases hw with rfl | rfl
      · rw [← hwi] at hz'; cases hz'
      · rw [← hwi] at hz'; cases hz'
        have := h4 sz (by rw [← hwi])
        have e2 : s + (o + l * sz) + (cp' - l) * sz = s + o + cp' * sz := by
          rw [Nat.sub_mul]
          have : l * sz ≤ cp' * sz := Nat.mul_le_mul_right _ (by omega)
          omega
        rw [e2]; exact this
theorem sliceS_true {t : Nat} {x : V} {lo hi : Option V} {h : H} {k : KO} (hk : h.ok) (hl : sliceS P t x lo hi h k = true) :
    ∃ v c, k v h c = true ∧ SlAt P t x lo hi h v ∧ ∀ h2, h2.ok → c h2 = true → SlAt P t x lo hi h2 v := by
  rcases onSlice_true.1 hl with ⟨s, rfl, h2⟩ | ⟨rfl, h2⟩ | ⟨b, o, n, c, rfl, h2⟩
  · obtain ⟨ht, h2⟩ := bg_true.1 h2
    obtain ⟨l, hh, h3, h4, h5, h6⟩ := boundK_true (P := P) h2
    rw [len0] at h5
    have key : ∀ h0, SlAt P t (.str s) lo hi h0 (.str (sub s l (Nat.sub hh l))) := fun h0 hs ha ρ w y yl yh hr hx hyl hyh => by
      obtain ⟨sb, rfl, hsb⟩ := hx.str_inv
      have hu := und_isStr ht
      have := h6 ρ yl yh w false sb.size (by rw [len0, ← hsb, bytesOf_length]; exact Nat.le_refl _) hyl hyh
      rw [len0, ← hsb, bytesOf_length] at this
      refine ⟨.string (sb.extract l hh), ?_, VR.str _ (by rw [bytesOf_extract, hsb]; rfl)⟩
      simp only [Instr.sliceAt, Sem.run_bind, run_und hu, Result.andThen_ok, Instr.slice, Option.isSome_none, Bool.false_eq_true, if_false, Sem.run_pure, this]
    exact ⟨_, _, h3, key h, fun h2 _ _ => key h2⟩
  · obtain ⟨e, he, h2⟩ := og_true.1 h2
    obtain ⟨sz, hsz, h2⟩ := og_true.1 h2
    have hu := und_slice he
    obtain ⟨l, hh, h3, h4, h5, h6⟩ := boundK_true (P := P) h2
    have hh0 : hh = 0 := by omega
    have hl0 : l = 0 := by omega
    subst hh0; subst hl0
    have key : ∀ h0, SlAt P t .nils lo hi h0 .nils := fun h0 hs ha ρ w y yl yh hr hx hyl hyh => by
      rw [hx.nils_inv]
      have := h6 ρ yl yh w true 0 (Nat.le_refl _) hyl hyh
      refine ⟨.slice none 0 0, ?_, by simp only [VR]⟩
      simp only [Instr.sliceAt, Sem.run_bind, run_und hu, Result.andThen_ok, Instr.slice, this, run_sizeT hsz]; rfl
    exact ⟨_, _, h3, key h, fun h2 _ _ => key h2⟩
  · obtain ⟨e, he, h2⟩ := og_true.1 h2
    obtain ⟨sz, hsz, h2⟩ := og_true.1 h2
    have hu := und_slice he
    obtain ⟨l, hh, h3, hlh, h5, h6⟩ := boundK_true (P := P) h2
    obtain ⟨h7, h8⟩ := okZ_true h3
    have key : ∀ h0 : H, h0.ok → (l = 0 ∨ ∃ n cs e wi ro fz, h0.get b = some (.row n cs e wi ro fz) ∧ (wi = 0 ∨ wi = sz + 1)) → SlAt P t (.slice b o n c) lo hi h0 (.slice b (o + l * sz) (hh - l) (c - l)) := fun h0 hk0 hz hs ha ρ w y yl yh hr hx hyl hyh => by
      obtain ⟨a, cp', rfl, hcp, hv⟩ := slices_at (P := P) ha hk0 hr hx hlh h5 hz
      refine ⟨_, ?_, hv⟩
      have := h6 ρ yl yh w true cp' hcp hyl hyh
      simp only [Instr.sliceAt, Sem.run_bind, run_und hu, Result.andThen_ok, Instr.slice, this, run_sizeT hsz]; rfl
    exact ⟨_, _, h7, key h hk h8, fun h2 hk2 hc => key h2 hk2 (okZ_true hc).2⟩
theorem arrT_und {t n e : Nat} (h : arrT P t = some (n, e)) : P.underlying t = some (.array n e) := by
  unfold arrT at h
  split at h
  · cases h; assumption
  · cases h
theorem slicePA_true {t n e : Nat} (ht : arrT P t = some (n, e)) {x : V} {lo hi : Option V} {h : H} {k : KO} (hk : h.ok) (hl : slicePA P n e x lo hi h k = true) :
    ∃ v c, k v h c = true ∧ SlAt P t x lo hi h v ∧ ∀ h2, h2.ok → c h2 = true → SlAt P t x lo hi h2 v := by
  have hu := arrT_und ht
  obtain ⟨b, o, rfl, h2⟩ := vPtr_true.1 hl
  obtain ⟨sz, hsz, h2⟩ := og_true.1 h2
  obtain ⟨l, hh, h3, hlh, h5, h6⟩ := boundK_true (P := P) h2
  obtain ⟨rn, cs, el, wi, ro, fz, hg, h3⟩ := rowK_true.1 h3
  obtain ⟨hw, h3⟩ := bg_true.1 h3
  rw [nbeq, decide_eq_true_iff] at hw
  subst hw
  have key : ∀ h0 : H, h0.ok → (∃ n cs e ro fz, h0.get b = some (.row n cs e 0 ro fz)) → SlAt P t (.ptr b o) lo hi h0 (.slice b (o + l * sz) (hh - l) (n - l)) := fun h0 hk0 ⟨n', cs', e', ro', fz', hg'⟩ hs ha ρ w y yl yh hr hx hyl hyh => by
    obtain ⟨c, s, wl, hb, rfl⟩ := hx.ptr_inv
    obtain ⟨hwi, _⟩ := hr.row hb (ha.some hk0 hg')
    have := h6 ρ yl yh w false n (Nat.le_refl _) hyl hyh
    refine ⟨.slice (some (if n = l then ⟨c, s + o, none⟩ else (⟨c, s + o, none⟩ : Addr).add (l * sz))) (hh - l) (n - l), ?_, ?_⟩
    · simp only [Instr.sliceAt, Sem.run_bind, run_und hu, Result.andThen_ok, Instr.sureAddr, Sem.run_pure, this, run_sizeT hsz]
    · simp only [VR]
      refine ⟨c, s, wl, _, n - l, hb, rfl, by omega, Nat.le_refl _, fun _ => rfl, fun z hz => ?_, ?_⟩
      · rw [← hwi] at hz; cases hz
      · by_cases e1 : n = l
        · exact .inl (by omega)
        · exact .inr (by rw [if_neg e1]; simp [addr_add, Nat.add_assoc])
  refine ⟨_, _, h3, key h hk ⟨_, _, _, _, _, hg⟩, fun h2 hk2 hc => key h2 hk2 ?_⟩
  obtain ⟨n2, cs2, e2, w2, ro2, fz2, hg2, hc2⟩ := rowK_true.1 hc
  rw [nbeq, decide_eq_true_iff] at hc2
  subst hc2
  exact ⟨_, _, _, _, _, hg2⟩
theorem sliceK_true {t : Nat} {x : V} {lo hi : Option V} {h : H} {k : KO} (hk : h.ok) (hl : sliceK P t x lo hi h k = true) :
    ∃ v c, k v h c = true ∧ SlAt P t x lo hi h v ∧ ∀ h2, h2.ok → c h2 = true → SlAt P t x lo hi h2 v := by
  unfold sliceK at hl
  cases ht : arrT P t with
  | none => rw [ht] at hl; exact sliceS_true hk hl
  | some p => rw [ht] at hl; exact slicePA_true ht hk hl
theorem oSlice_ok {t : Nat} {x : Operand} {lo hi mx : Option Operand} {o : Oper} (ho : o.op = .slice t x lo hi mx) {tm : T V} {h : H} {k : KO} (hok : h.ok) (hk : oSlice P t x lo hi mx tm h k = true) :
    ∃ v c, k v h c = true ∧ PureAt P o tm v h ∧ ∀ h2, h2.ok → c h2 = true → PureAt P o tm v h2 := by
  cases mx with
  | some m => cases hk
  | none =>
    obtain ⟨a, ha, hk⟩ := opdK_true.1 (show opdK x tm (fun x => opdO lo tm fun l => opdO hi tm fun hh => sliceK P t x l hh h k) = true from hk)
    have lo' : ∃ vl, (∀ (ρ : Ren) (ev : Operand → Value), OpsR ρ tm ev o.op.operands.toList → BR ρ vl (lo.map ev)) ∧ (opdO hi tm fun hh => sliceK P t a vl hh h k) = true := by
      rcases opdO_true hk with ⟨rfl, hk⟩ | ⟨y, v, rfl, hv, hk⟩
      · exact ⟨none, fun ρ ev _ => rfl, hk⟩
      · exact ⟨some v, fun ρ ev hops => ⟨ev y, rfl, hops y (by simp [ho, Op.operands]) v hv⟩, hk⟩
    obtain ⟨vl, hbl, hk⟩ := lo'
    have hi' : ∃ vh, (∀ (ρ : Ren) (ev : Operand → Value), OpsR ρ tm ev o.op.operands.toList → BR ρ vh (hi.map ev)) ∧ sliceK P t a vl vh h k = true := by
      rcases opdO_true hk with ⟨rfl, hk⟩ | ⟨y, v, rfl, hv, hk⟩
      · exact ⟨none, fun ρ ev _ => rfl, hk⟩
      · exact ⟨some v, fun ρ ev hops => ⟨ev y, rfl, hops y (by simp [ho, Op.operands]) v hv⟩, hk⟩
    obtain ⟨vh, hbh, hk⟩ := hi'
    obtain ⟨v, c, h1, h2, h3⟩ := sliceK_true (P := P) hok hk
    have key : ∀ h0, SlAt P t a vl vh h0 v → PureAt P o tm v h0 := fun h0 hs h4 ha' ρ ev w hops hr => by
      obtain ⟨r, e1, e2⟩ := hs h4 ha' ρ w _ _ _ hr (hops x (by simp [ho, Op.operands]) a ha) (hbl ρ ev hops) (hbh ρ ev hops)
      refine ⟨r, ?_, e2⟩
      simp only [execOp, ho, Sem.run_bind, Option.map_none, e1, Result.andThen_ok]; rfl
    exact ⟨v, c, h1, key h h2, fun h4 hk4 hc => key h4 (h3 h4 hk4 hc)⟩
end Go.Ev
/-
  ENGINE, PART 12: conversions, capacities, looks into maps.
-/
namespace Go.Ev
variable {P : Program}

/-! ### bytes -/
theorem ldB_true {cs : T V} {n : Nat} : ∀ {o : Nat} {k : List Nat → Bool}, ldB cs n o k = true → ∃ l : List Nat, k l = true ∧ l.length = n ∧ (∀ c ∈ l, c < 256) ∧ ∀ i c, l[i]? = some c → cs.get (o + i) = some (.int .u8 (Int.ofNat c)) := by
  induction n with
  | zero => intro o k h; exact ⟨[], h, rfl, by simp, fun i c hc => by simp at hc⟩
  | succ n ih =>
    intro o k h
    obtain ⟨v, hv, h⟩ := og_true.1 (show og (cs.get o) (fun v => vInt v fun j c => bg (keq j .u8) (Int.rec (motive := fun _ => Bool) (fun c => bg (Nat.blt c 256) (ldB cs n (o + 1) fun l => k (c :: l))) (fun _ => false) c)) = true from h)
    obtain ⟨j, c, rfl, h2⟩ := vInt_true.1 h
    obtain ⟨h3, h4⟩ := bg_true.1 h2
    rw [keq_true] at h3; subst h3
    cases c with
    | negSucc c => cases h4
    | ofNat c =>
      obtain ⟨h8, h9⟩ := bg_true.1 (show bg (Nat.blt c 256) (ldB cs n (o + 1) fun l => k (c :: l)) = true from h4)
      rw [nblt, decide_eq_true_iff] at h8
      obtain ⟨l, h5, h6, h10, h7⟩ := ih h9
      refine ⟨c :: l, h5, by simp [h6], by simpa using ⟨h8, h10⟩, fun i d hd => ?_⟩
      cases i with
      | zero => simp at hd; subst hd; exact hv
      | succ i => have := h7 i d (by simpa using hd); rwa [show o + 1 + i = o + (i + 1) from by omega] at this
/-- the loop that makes a string of cells -/
theorem bytes_loop {w : World} : ∀ (l : List Nat) (s : ByteArray), (∀ c ∈ l, c < 256) →
    Sem.run P (forIn (m := Sem) (l.map fun c => Value.int .u8 (Int.ofNat c)).toArray s fun c s => do
      let .int .u8 n := c | stuck "bytesToString: byte expected"
      pure (ForInStep.yield (s.push (UInt8.ofNat n.toNat)))) w = .ok ⟨(s.data.toList ++ l.map UInt8.ofNat).toArray⟩ w
  | [], s, _ => by simp
  | c :: l, s, h => by
    have ih := bytes_loop (w := w) l (s.push (UInt8.ofNat c)) (fun d hd => h d (by simp [hd]))
    simp only [← Array.forIn_toList, List.map_cons, List.forIn_cons] at ih ⊢
    simp only [Sem.run_bind, Sem.run_pure, Result.andThen_ok]
    refine Eq.trans ?_ (ih.trans ?_)
    · rfl
    · simp
theorem bytesOf_ofNat {l : List Nat} (h : ∀ c ∈ l, c < 256) : bytesOf ⟨(l.map UInt8.ofNat).toArray⟩ = l := by
  unfold bytesOf
  simp only [List.map_map]
  refine List.ext_getElem (by simp) fun i h1 h2 => ?_
  simp only [List.getElem_map, Function.comp]
  have := h _ (List.getElem_mem h2)
  simpa [UInt8.toNat_ofNat'] using Nat.mod_eq_of_lt (show l[i] < 256 from this)
/-- bytes that a row is known to hold -/
theorem ldB_row {ρ : Ren} {n wi fz s rn o : Nat} {cs : T V} {ro : Bool} {arr : Array Value} {fr : Nat × Nat} (hr : RowR ρ rn cs wi ro fz s arr fr) {l : List Nat} (hl : l.length = n) (hn : o + n ≤ rn)
    (h : ∀ i c, l[i]? = some c → cs.get (o + i) = some (.int .u8 (Int.ofNat c))) : ∀ (j : Nat) (x : Value), (l.map fun c => Value.int .u8 (Int.ofNat c))[j]? = some x → arr[s + o + j]? = some x := by
  intro j x hx
  rw [List.getElem?_map] at hx
  obtain ⟨c, hc, rfl⟩ := Option.map_eq_some_iff.1 hx
  have hj : j < l.length := (List.getElem?_eq_some_iff.1 hc).1
  obtain ⟨y, hy, hv⟩ := hr.cell _ _ (by omega) (h j c hc)
  rw [hv.int_inv] at hy
  rw [show s + o + j = s + (o + j) from by omega]; exact hy
def BytesAt (P : Program) (h : H) (v : V) (l : List Nat) : Prop := ∀ hs, Ag h hs → ∀ (ρ : Ren) (w : World) (x : Value), HR P ρ hs w → VR ρ v x → ∃ b : ByteArray, (Conv.bytesToString x).run P w = .ok (.string b) w ∧ bytesOf b = l
theorem bytesK_true {v : V} {h : H} {k : List Nat → Bool} (hok : h.ok) (hk : bytesK v h k = true) : ∃ l, k l = true ∧ BytesAt P h v l := by
  rcases onSl_true.1 hk with ⟨rfl, h2⟩ | ⟨b, o, n, cp, rfl, h2⟩
  · refine ⟨[], h2, fun hs ha ρ w x hr hx => ⟨.empty, ?_, rfl⟩⟩
    rw [hx.nils_inv]; rfl
  · obtain ⟨rn, cs, e, wi, ro, fz, hg, h3⟩ := rowK_true.1 h2
    obtain ⟨h4, h5⟩ := bg_true.1 h3
    rw [nble, decide_eq_true_iff] at h4
    obtain ⟨l, h6, h7, hb, h8⟩ := ldB_true h5
    refine ⟨l, h6, fun hs ha ρ w x hr hx => ?_⟩
    obtain ⟨c, s, wl, a, cp', hρ, rfl, h9, h10, _, _, h11⟩ := hx.slice_inv
    obtain ⟨_, arr, fr, hh, hrow, _⟩ := hr.row hρ (ha.some hok hg)
    have hcells := ldB_row hrow h7 h4 h8
    refine ⟨⟨(l.map UInt8.ofNat).toArray⟩, ?_, bytesOf_ofNat hb⟩
    have hld : (loadCells a n).run P w = .ok (l.map fun c => Value.int .u8 (Int.ofNat c)).toArray w := by
      rcases h11 with h0 | rfl
      · have : n = 0 := by omega
        subst this
        have : l = [] := List.length_eq_zero_iff.1 h7
        subst this; rfl
      · have := run_loadCells_at (P := P) hh _ hcells
        rwa [List.length_map, h7] at this
    simp only [Conv.bytesToString, Sem.run_bind, hld, Result.andThen_ok]
    have := bytes_loop (P := P) (w := w) l .empty hb
    refine Eq.trans (congrArg (fun r => Result.andThen r _) (Eq.trans ?_ this)) ?_
    · rfl
    · simp

/-! ### conversions -/
/-- what a conversion yields -/
def ConvAt (P : Program) (s d : Nat) (x : V) (h : H) (v : V) : Prop := ∀ hs, Ag h hs → ∀ (ρ : Ren) (w : World) (y : Value), HR P ρ hs w → VR ρ x y → ∃ r, (convert s d y).run P w = .ok r w ∧ VR ρ v r
inductive KdR (P : Program) (d : Nat) : Kd → Prop
  | int {k : IntKind} (h : P.underlying d = some (.int k)) : KdR P d (.int k)
  | str (h : P.underlying d = some .string) : KdR P d .str
  | bytes {e : Nat} (h : P.underlying d = some (.slice e)) (he : P.underlying e = some (.int .u8)) : KdR P d (.bytes e)
  | uptr (h : P.underlying d = some .unsafePointer) : KdR P d .uptr
  | ptr {e : Nat} (h : P.underlying d = some (.pointer e)) : KdR P d (.ptr e)
theorem kindT_true {d : Nat} {k : Kd} (h : kindT P d = some k) : KdR P d k := by
  unfold kindT at h
  split at h
  · rename_i hu; cases h; exact .int hu
  · rename_i hu; cases h; exact .str hu
  · rename_i e hu
    split at h
    · rename_i he; cases h; exact .bytes hu he
    · cases h
  · rename_i hu; cases h; exact .uptr hu
  · rename_i hu; cases h; exact .ptr hu
  · cases h
theorem und_bytes {t e : Nat} (h : bytesElT P t = some e) : P.underlying t = some (.slice e) ∧ P.underlying e = some (.int .u8) := by
  unfold bytesElT at h
  split at h
  · rename_i e' hu
    split at h
    · rename_i he; cases h; exact ⟨hu, he⟩
    · cases h
  · cases h
theorem und_uptr {t : Nat} (h : isUptrT P t = true) : P.underlying t = some .unsafePointer := by
  unfold isUptrT at h; split at h
  · assumption
  · cases h
theorem und_ptr {t e : Nat} (h : ptrT P t = some e) : P.underlying t = some (.pointer e) := by
  unfold ptrT at h; split at h
  · rename_i e' hu; cases h; exact hu
  · cases h
theorem seenAt_cells {w : World} {c o : Nat} {arr : Array Value} {e : TypeId} {fr : Nat × Nat} (hh : w.heap[c]? = some (.cells arr e fr)) : (Conv.seenAt ⟨c, o, none⟩).run P w = .ok ⟨c, o, none⟩ w := by
  have hs : w.shape? c = some (e, arr.size) := by simp [World.shape?, hh]
  simp [Conv.seenAt, viewAt, Sem.run_bind, hs]
end Go.Ev
/-
  ENGINE, PART 13: conversions that make nothing; capacities; looks into maps.
-/
namespace Go.Ev
variable {P : Program}

theorem conv_int {s d : Nat} {ds : TypeDesc} {k : IntKind} (hs : P.underlying s = some ds) (hd : P.underlying d = some (.int k)) (j : IntKind) (n : Int) (w : World) : (convert s d (.int j n)).run P w = .ok (.int k (k.wrap n)) w := by
  simp only [convert, Sem.run_bind, run_und hs, run_und hd, Result.andThen_ok]
  cases ds <;> rfl
theorem conv_intStr {s d : Nat} {ds : TypeDesc} (hs : P.underlying s = some ds) (hd : P.underlying d = some .string) (j : IntKind) (n : Int) (w : World) : (convert s d (.int j n)).run P w = .ok (.string (Utf8.encode n)) w := by
  simp only [convert, Sem.run_bind, run_und hs, run_und hd, Result.andThen_ok]
  cases ds <;> rfl
theorem conv_str {s d : Nat} {ds : TypeDesc} (hs : P.underlying s = some ds) (hd : P.underlying d = some .string) (b : ByteArray) (w : World) : (convert s d (.string b)).run P w = .ok (.string b) w := by
  simp only [convert, Sem.run_bind, run_und hs, run_und hd, Result.andThen_ok]
  cases ds <;> rfl
theorem conv_bytesStr {s d e : Nat} (hs : P.underlying s = some (.slice e)) (he : P.underlying e = some (.int .u8)) (hd : P.underlying d = some .string) (a : Option Addr) (l c : Nat) (w : World) :
    (convert s d (.slice a l c)).run P w = (Conv.bytesToString (.slice a l c)).run P w := by
  simp only [convert, Sem.run_bind, run_und hs, run_und hd, Result.andThen_ok, run_und he]
theorem conv_strBytes {s d e : Nat} {ds : TypeDesc} (hs : P.underlying s = some ds) (hd : P.underlying d = some (.slice e)) (he : P.underlying e = some (.int .u8)) (b : ByteArray) (w : World) :
    (convert s d (.string b)).run P w = (Conv.stringToBytes e b).run P w := by
  simp only [convert, Sem.run_bind, run_und hs, run_und hd, Result.andThen_ok]
  cases ds <;> simp only [Sem.run_bind, run_und he, Result.andThen_ok]
theorem conv_ptr {s d : Nat} {ds dd : TypeDesc} (hs : P.underlying s = some ds) (hd : P.underlying d = some dd) (h : (∃ e, ds = .pointer e ∧ dd = .unsafePointer) ∨ ∃ e, ds = .unsafePointer ∧ dd = .pointer e) (a : Option Addr) (w : World) :
    (convert s d (.pointer a)).run P w = (Conv.unsafePointer s d (.pointer a)).run P w := by
  simp only [convert, Sem.run_bind, run_und hs, run_und hd, Result.andThen_ok]
  rcases h with ⟨e, rfl, rfl⟩ | ⟨e, rfl, rfl⟩ <;> cases a <;> rfl
theorem und_has {t : Nat} (h : hasU P t = true) : ∃ d, P.underlying t = some d := by
  unfold hasU at h; split at h
  · rename_i d hu; exact ⟨d, hu⟩
  · cases h
theorem run_cellsIn {w : World} {c : Nat} {arr : Array Value} {e : TypeId} {fr : Nat × Nat} (hh : w.heap[c]? = some (.cells arr e fr)) : (cellsIn c).run P w = .ok (some arr.size) w := by
  have hs : w.shape? c = some (e, arr.size) := by simp [World.shape?, hh]
  simp [cellsIn, Sem.run_bind, hs]
theorem toU_true {t : Nat} {p : V} {h : H} {k : Bool} (hok : h.ok) (hk : toU P t p h k = true) : k = true ∧ ∀ s d, P.underlying s = some (.pointer t) → P.underlying d = some .unsafePointer → ConvAt P s d p h p := by
  obtain ⟨b, o, rfl, h2⟩ := vPtr_true.1 hk
  obtain ⟨sz, hsz, h3⟩ := og_true.1 h2
  cases sz with
  | zero => cases h3
  | succ sz =>
    obtain ⟨n, cs, e, wi, ro, fz, hg, h4⟩ := rowK_true.1 (show rowK h b (fun n _ _ _ _ _ => bg (Nat.blt o n) k) = true from h3)
    obtain ⟨h5, h6⟩ := bg_true.1 h4
    rw [nblt, decide_eq_true_iff] at h5
    refine ⟨h6, fun s d hs hd hs2 ha ρ w y hr hx => ⟨y, ?_, hx⟩⟩
    obtain ⟨c, sh, wl, hb, rfl⟩ := hx.ptr_inv
    obtain ⟨_, arr, fr, hh, hrow, _⟩ := hr.row hb (ha.some hok hg)
    have hlt : sh + o < arr.size := by have := hrow.fits; omega
    rw [conv_ptr hs hd (.inl ⟨t, rfl, rfl⟩)]
    simp only [Conv.unsafePointer, Sem.run_bind, run_und hs, run_und hd, Result.andThen_ok, seenAt_cells hh, run_cellsIn hh, run_sizeT hsz]
    have e1 : ¬ (sh + o ≥ arr.size) := by omega
    simp [e1]
theorem ofU_true {t : Nat} {p : V} {h : H} {k : Bool} (hok : h.ok) (hk : ofU P t p h k = true) : k = true ∧ ∀ s d, P.underlying s = some .unsafePointer → P.underlying d = some (.pointer t) → ConvAt P s d p h p := by
  obtain ⟨b, o, rfl, h2⟩ := vPtr_true.1 hk
  obtain ⟨n, cs, e, wi, ro, fz, hg, h3⟩ := rowK_true.1 h2
  rw [bsel_eq] at h3
  cases ro with
  | true => cases h3
  | false =>
    obtain ⟨h4, h5⟩ := bg_true.1 (show bg (Nat.beq wi 0) (bg (liesAt P P.depth e (n / P.cellsOf e) o t 1) (og (sizeT P t) fun _ => k)) = true from h3)
    rw [nbeq, decide_eq_true_iff] at h4; subst h4
    obtain ⟨h6, h7⟩ := bg_true.1 h5
    obtain ⟨sz, hsz, h7⟩ := og_true.1 h7
    refine ⟨h7, fun s d hs hd hs2 ha ρ w y hr hx => ⟨y, ?_, hx⟩⟩
    obtain ⟨c, sh, wl, hb, rfl⟩ := hx.ptr_inv
    obtain ⟨_, arr, fr, hh, hrow, _⟩ := hr.row hb (ha.some hok hg)
    obtain ⟨rfl, hsize⟩ := hrow.exact_ rfl rfl
    rw [conv_ptr hs hd (.inr ⟨t, rfl, rfl⟩)]
    have hsh : w.shape? c = some (e, arr.size) := by simp [World.shape?, hh]
    have hv : (variablesAt ⟨c, 0 + o, none⟩ t 1).run P w = .ok true w := by
      simp only [variablesAt, Sem.run_bind, run_program, run_shape, Result.andThen_ok, hsh]
      rw [hsize, Nat.zero_add, h6]; rfl
    simp only [Conv.unsafePointer, Sem.run_bind, run_und hs, run_und hd, Result.andThen_ok, seenAt_cells hh, run_sizeT hsz, hv]
    simp
/-- a conversion that makes nothing; to bytes: see the next part -/
theorem convK_true {s d : Nat} {kd : Kd} {x : V} {h : H} {k : KO} (hok : h.ok) (hkd : KdR P d kd) (hs : hasU P s = true) (hnb : ∀ e, kd ≠ .bytes e) (hk : convK P s kd x h k = true) :
    ∃ v c, k v h c = true ∧ ConvAt P s d x h v ∧ ∀ h2, h2.ok → c h2 = true → ConvAt P s d x h2 v := by
  obtain ⟨ds, hds⟩ := und_has hs
  cases hkd with
  | int hd =>
    obtain ⟨j, n, rfl, h2⟩ := vInt_true.1 hk
    unfold iV at h2
    rw [seeI_eq, wrap_eq] at h2
    have key : ∀ h0, ConvAt P s d (.int j n) h0 (.int _ (IntKind.wrap _ n)) := fun h0 hs ha ρ w y hr hx => ⟨_, by rw [hx.int_inv]; exact conv_int hds hd j n w, VR.int _ _⟩
    exact ⟨_, _, h2, key h, fun h2 _ _ => key h2⟩
  | str hd =>
    rcases onConv_true.1 hk with ⟨j, n, rfl, h2⟩ | ⟨sb, rfl, h2⟩ | ⟨hx', h2⟩
    · have key : ∀ h0, ConvAt P s d (.int j n) h0 (.str (bytesOf (Utf8.encode n))) := fun h0 hs ha ρ w y hr hx => ⟨_, by rw [hx.int_inv]; exact conv_intStr hds hd j n w, VR.str _ rfl⟩
      exact ⟨_, _, h2, key h, fun h2 _ _ => key h2⟩
    · have key : ∀ h0, ConvAt P s d (.str sb) h0 (.str sb) := fun h0 hs ha ρ w y hr hx => by
        obtain ⟨b, rfl, hb⟩ := hx.str_inv
        exact ⟨_, conv_str hds hd b w, VR.str _ hb⟩
      exact ⟨_, _, h2, key h, fun h2 _ _ => key h2⟩
    · obtain ⟨e, he, h3⟩ := og_true.1 h2
      obtain ⟨hu, hu8⟩ := und_bytes he
      have key : ∀ h0 l, BytesAt P h0 x l → ConvAt P s d x h0 (.str l) := fun h0 l hb hs ha ρ w y hr hx => by
        obtain ⟨b, h5, h6⟩ := hb hs ha ρ w y hr hx
        refine ⟨.string b, ?_, VR.str _ h6⟩
        rcases hx' with rfl | ⟨bb, oo, ll, cc, rfl⟩
        · rw [hx.nils_inv] at h5 ⊢; rw [conv_bytesStr hu hu8 hd]; exact h5
        · obtain ⟨_, _, _, _, _, _, rfl, _⟩ := hx.slice_inv
          rw [conv_bytesStr hu hu8 hd]; exact h5
      obtain ⟨l, h4, h5⟩ := bytesK_true (P := P) hok h3
      refine ⟨_, _, h4, key h l h5, fun h6 hok6 hc => ?_⟩
      obtain ⟨l', h7, h8⟩ := bytesK_true (P := P) hok6 hc
      rw [seq_eq, decide_eq_true_iff] at h7
      subst h7; exact key h6 _ h8
  | bytes hd he => exact absurd rfl (hnb _)
  | uptr hd =>
    obtain ⟨t, ht, h2⟩ := og_true.1 hk
    have hu := und_ptr ht
    rcases onPtr_true.1 h2 with ⟨rfl, h3⟩ | ⟨b, o, rfl, h3⟩
    · have key : ∀ h0, ConvAt P s d .nilp h0 .nilp := fun h0 hs ha ρ w y hr hx => ⟨.pointer none, by
        rw [hx.nilp_inv, conv_ptr hu hd (.inl ⟨t, rfl, rfl⟩)]
        simp only [Conv.unsafePointer, Sem.run_bind, run_und hu, run_und hd, Result.andThen_ok]; rfl, by simp only [VR]⟩
      exact ⟨_, _, h3, key h, fun h2 _ _ => key h2⟩
    · obtain ⟨h4, h5⟩ := toU_true (P := P) hok h3
      exact ⟨_, _, h4, h5 s d hu hd, fun h2 hok2 hc => (toU_true (P := P) hok2 hc).2 s d hu hd⟩
  | ptr hd =>
    obtain ⟨ht, h2⟩ := bg_true.1 hk
    have hu := und_uptr ht
    rcases onPtr_true.1 h2 with ⟨rfl, h3⟩ | ⟨b, o, rfl, h3⟩
    · have key : ∀ h0, ConvAt P s d .nilp h0 .nilp := fun h0 hs ha ρ w y hr hx => ⟨.pointer none, by
        rw [hx.nilp_inv, conv_ptr hu hd (.inr ⟨_, rfl, rfl⟩)]
        simp only [Conv.unsafePointer, Sem.run_bind, run_und hu, run_und hd, Result.andThen_ok]; rfl, by simp only [VR]⟩
      exact ⟨_, _, h3, key h, fun h2 _ _ => key h2⟩
    · obtain ⟨h4, h5⟩ := ofU_true (P := P) hok h3
      exact ⟨_, _, h4, h5 s d hu hd, fun h2 hok2 hc => (ofU_true (P := P) hok2 hc).2 s d hu hd⟩
end Go.Ev
/-
  ENGINE, PART 14: builtins that change nothing; looks into maps.
-/
namespace Go.Ev
variable {P : Program}

theorem exec_builtin {o : Oper} {c : Call} {b : Builtin} (ho : o.op = .call c) (hc : c.callee = .builtin b) (ev : Operand → Value) (w : World) :
    ∃ consts, (execOp ev o).run P w = (builtin b c.argTypes o.type consts (c.args.map ev)).run P w := by
  refine ⟨c.args.map fun | .const _ => true | _ => false, ?_⟩
  simp only [execOp, ho, resolve, hc, Sem.run_bind, Sem.run_pure, Result.andThen_ok, invoke]
  rfl
theorem call_args {o : Oper} {c : Call} (ho : o.op = .call c) : ∀ x ∈ c.args.toList, x ∈ o.op.operands.toList := by
  intro x hx
  simp only [ho, Op.operands, Call.operands]
  cases c.callee <;> simp at hx ⊢ <;> simp [hx]
theorem args1 {ρ : Ren} {c : Call} {tm : T V} {ev : Operand → Value} {o : Oper} (ho : o.op = .call c) (hops : OpsR ρ tm ev o.op.operands.toList) {x : V} (ha : opdsV tm c.args.toList = some [x]) :
    ∃ y, c.args.map ev = #[y] ∧ VR ρ x y := by
  obtain ⟨y, ys, e, h1, h2⟩ := (opds_mem hops (call_args ho) ha).cons_inv
  have := h2.nil_inv; subst this
  refine ⟨y, ?_, h1⟩
  apply Array.toList_inj.1; simpa using e
theorem args2 {ρ : Ren} {c : Call} {tm : T V} {ev : Operand → Value} {o : Oper} (ho : o.op = .call c) (hops : OpsR ρ tm ev o.op.operands.toList) {x x' : V} (ha : opdsV tm c.args.toList = some [x, x']) :
    ∃ y y', c.args.map ev = #[y, y'] ∧ VR ρ x y ∧ VR ρ x' y' := by
  obtain ⟨y, ys, e, h1, h2⟩ := (opds_mem hops (call_args ho) ha).cons_inv
  obtain ⟨y', ys', rfl, h3, h4⟩ := h2.cons_inv
  have := h4.nil_inv; subst this
  refine ⟨y, y', ?_, h1, h3⟩
  apply Array.toList_inj.1; simpa using e
theorem ts0 {ts : Array Nat} {t i : Nat} (h : nth ts.toList i = some t) : ts[i]? = some t := by rw [nth_eq] at h; simpa using h

theorem lenK_true {t : Nat} {x : V} {k : V → Bool} (h : lenK P t x k = true) : ∃ v, k v = true ∧ ∀ (ts : Array TypeId) (ty : TypeId) (ρ : Ren) (y : Value) (w : World), ts[0]? = some t → VR ρ x y → ∃ r, (Builtin.len_ ts ty #[y]).run P w = .ok r w ∧ VR ρ v r := by
  unfold lenK at h
  split at h
  · rename_i hu
    obtain ⟨s, rfl, h2⟩ := vStr_true.1 h
    refine ⟨_, h2, fun ts ty ρ y w h0 hx => ?_⟩
    obtain ⟨b, rfl, hb⟩ := hx.str_inv
    refine ⟨_, ?_, VR.int _ _⟩
    simp only [Builtin.len_, h0, List.getElem?_toArray, List.getElem?_cons_zero, Sem.run_bind, run_und hu, Result.andThen_ok, len0]
    rw [← hb, bytesOf_length]; rfl
  · rename_i e hu
    rcases onSl_true.1 h with ⟨rfl, h2⟩ | ⟨b, o, n, c, rfl, h2⟩
    · refine ⟨_, h2, fun ts ty ρ y w h0 hx => ⟨_, ?_, VR.int _ _⟩⟩
      rw [hx.nils_inv]
      simp only [Builtin.len_, h0, List.getElem?_toArray, List.getElem?_cons_zero, Sem.run_bind, run_und hu, Result.andThen_ok]; rfl
    · refine ⟨_, h2, fun ts ty ρ y w h0 hx => ⟨_, ?_, VR.int _ _⟩⟩
      obtain ⟨_, _, _, _, _, _, rfl, _⟩ := hx.slice_inv
      simp only [Builtin.len_, h0, List.getElem?_toArray, List.getElem?_cons_zero, Sem.run_bind, run_und hu, Result.andThen_ok]; rfl
  · rename_i n e hu
    refine ⟨_, h, fun ts ty ρ y w h0 hx => ⟨_, ?_, VR.int _ _⟩⟩
    simp only [Builtin.len_, h0, List.getElem?_toArray, List.getElem?_cons_zero, Sem.run_bind, run_und hu, Result.andThen_ok]; rfl
  · cases h
def CapAt (P : Program) (t : Nat) (x : V) (h : H) (v : V) : Prop := ∀ hs, Ag h hs → ∀ (ts : Array TypeId) (ty : TypeId) (ρ : Ren) (w : World) (y : Value), ts[0]? = some t → HR P ρ hs w → VR ρ x y → ∃ r, (Builtin.cap_ ts ty #[y]).run P w = .ok r w ∧ VR ρ v r
theorem capK_true {t : Nat} {x : V} {h : H} {k : V → (H → Bool) → Bool} (hok : h.ok) (hk : capK P t x h k = true) : ∃ v c, k v c = true ∧ CapAt P t x h v ∧ ∀ h2, h2.ok → c h2 = true → CapAt P t x h2 v := by
  unfold capK at hk
  split at hk
  · rename_i e hu
    rcases onSl_true.1 hk with ⟨rfl, h2⟩ | ⟨b, o, n, c, rfl, h2⟩
    · have key : ∀ h0, CapAt P t .nils h0 (.int .i64 0) := fun h0 hs ha ts ty ρ w y h0 hr hx => by
        rw [hx.nils_inv]
        refine ⟨_, ?_, VR.int _ _⟩
        simp only [Builtin.cap_, h0, List.getElem?_toArray, List.getElem?_cons_zero, Sem.run_bind, run_und hu, Result.andThen_ok]; rfl
      exact ⟨_, _, h2, key h, fun h2 _ _ => key h2⟩
    · obtain ⟨rn, cs, e', wi, ro, fz, hg, h3⟩ := rowK_true.1 h2
      obtain ⟨h4, h5⟩ := bg_true.1 h3
      rw [nbeq, decide_eq_true_iff] at h4; subst h4
      have key : ∀ h0 : H, h0.ok → (∃ rn cs e' ro fz, h0.get b = some (.row rn cs e' 0 ro fz)) → CapAt P t (.slice b o n c) h0 (.int .i64 (Int.ofNat c)) := fun h0 hok0 ⟨rn, cs, e', ro, fz, hg⟩ hs ha ts ty ρ w y h0 hr hx => by
        obtain ⟨cc, s, wl, a, cp', hb, rfl, _, _, h6, _⟩ := hx.slice_inv
        obtain ⟨hw, _⟩ := hr.row hb (ha.some hok0 hg)
        have := h6 hw.symm; subst this
        refine ⟨_, ?_, VR.int _ _⟩
        simp only [Builtin.cap_, h0, List.getElem?_toArray, List.getElem?_cons_zero, Sem.run_bind, run_und hu, Result.andThen_ok]; rfl
      refine ⟨_, _, h5, key h hok ⟨_, _, _, _, _, hg⟩, fun h2 hok2 hc => ?_⟩
      obtain ⟨rn, cs, e', wi, ro, fz, hg, h3⟩ := rowK_true.1 hc
      rw [nbeq, decide_eq_true_iff] at h3; subst h3
      exact key h2 hok2 ⟨_, _, _, _, _, hg⟩
  · rename_i n e hu
    have key : ∀ h0, CapAt P t x h0 (.int .i64 (Int.ofNat n)) := fun h0 hs ha ts ty ρ w y h0 hr hx => by
      refine ⟨_, ?_, VR.int _ _⟩
      simp only [Builtin.cap_, h0, List.getElem?_toArray, List.getElem?_cons_zero, Sem.run_bind, run_und hu, Result.andThen_ok]; rfl
    exact ⟨_, _, hk, key h, fun h2 _ _ => key h2⟩
  · cases hk
theorem sdK_true {x : V} {k : V → Bool} (h : sdK x k = true) : ∃ v, k v = true ∧ ∀ (ts : Array TypeId) (ty : TypeId) (ρ : Ren) (y : Value) (w : World), VR ρ x y → ∃ r, (Builtin.unsafeSliceData_ ts ty #[y]).run P w = .ok r w ∧ VR ρ v r := by
  rcases onSl_true.1 h with ⟨rfl, h2⟩ | ⟨b, o, n, c, rfl, h2⟩
  · refine ⟨_, h2, fun ts ty ρ y w hx => ⟨.pointer none, ?_, by simp only [VR]⟩⟩
    rw [hx.nils_inv]; rfl
  · cases c with
    | zero => cases h2
    | succ c =>
      refine ⟨_, h2, fun ts ty ρ y w hx => ?_⟩
      obtain ⟨cc, s, wl, a, cp', hb, rfl, h3, h4, _, _, h5⟩ := hx.slice_inv
      have : a = ⟨cc, s + o, none⟩ := h5.resolve_left (by omega)
      subst this
      refine ⟨_, ?_, VR.ptr o hb⟩
      have : cp' ≠ 0 := by omega
      refine Eq.trans (b := Sem.run P (if cp' ≠ 0 then pure (.pointer (some ⟨cc, s + o, none⟩)) else _) w) rfl ?_
      rw [if_pos this]; rfl
theorem mmK_true {mx : Bool} {x x' : V} {k : V → Bool} (h : mmK mx x x' k = true) : ∃ v, k v = true ∧ ∀ (ts : Array TypeId) (ty : TypeId) (ρ : Ren) (y y' : Value) (w : World), VR ρ x y → VR ρ x' y' →
    ∃ r, ((if mx then Builtin.max_ ts ty #[y, y'] else Builtin.min_ ts ty #[y, y'])).run P w = .ok r w ∧ VR ρ v r := by
  obtain ⟨j, a, rfl, h2⟩ := vInt_true.1 h
  obtain ⟨j', b, rfl, h3⟩ := vInt_true.1 h2
  rw [bsel_eq, bsel_eq, ilt_eq, ilt_eq] at h3
  cases mx with
  | true =>
    simp only [if_true, decide_eq_true_eq] at h3
    by_cases e : a < b
    · rw [if_pos e] at h3
      refine ⟨_, h3, fun ts ty ρ y y' w hx hy => ⟨_, ?_, VR.int _ _⟩⟩
      rw [hx.int_inv, hy.int_inv]
      simp [Builtin.max_, Builtin.max2, e]
    · rw [if_neg e] at h3
      refine ⟨_, h3, fun ts ty ρ y y' w hx hy => ⟨_, ?_, VR.int _ _⟩⟩
      rw [hx.int_inv, hy.int_inv]
      simp [Builtin.max_, Builtin.max2, e]
  | false =>
    simp only [Bool.false_eq_true, if_false, decide_eq_true_eq] at h3
    by_cases e : b < a
    · rw [if_pos e] at h3
      refine ⟨_, h3, fun ts ty ρ y y' w hx hy => ⟨_, ?_, VR.int _ _⟩⟩
      rw [hx.int_inv, hy.int_inv]
      simp [Builtin.min_, Builtin.min2, e]
    · rw [if_neg e] at h3
      refine ⟨_, h3, fun ts ty ρ y y' w hx hy => ⟨_, ?_, VR.int _ _⟩⟩
      rw [hx.int_inv, hy.int_inv]
      simp [Builtin.min_, Builtin.min2, e]
end Go.Ev
/-
  ENGINE, PART 15: looks into maps.
-/
namespace Go.Ev
variable {P : Program}

inductive KD : TypeDesc → V → Prop
  | int {j k : IntKind} {n : Int} : KD (.int j) (.int k n)
  | str {s : List Nat} : KD .string (.str s)
  | bool {b : Bool} : KD .bool (.bool b)
theorem keyT_true {t : Nat} {key : V} (h : keyT P t key = true) : ∃ d, P.underlying t = some d ∧ KD d key := by
  unfold keyT at h
  split at h
  · rename_i hu; exact ⟨_, hu, .int⟩
  · rename_i hu; exact ⟨_, hu, .str⟩
  · rename_i hu; exact ⟨_, hu, .bool⟩
  · cases h
theorem keyEq_true {x y : V} {k : Bool → Bool} (h : keyEq x y k = true) : ∃ r, k r = true ∧ (r = true → x = y) ∧ ∀ (ρ : Ren) (a b : Value) (d : TypeDesc), KD d x → VR ρ x a → VR ρ y b → Instr.sameNow d a b = some r := by
  unfold keyEq at h
  split at h
  · rename_i i a j b
    obtain ⟨h1, h2⟩ := bg_true.1 h
    rw [keq_true] at h1; subst h1
    rw [ieq_eq] at h2
    refine ⟨_, h2, fun e => by simp at e; rw [e], fun ρ va vb d hd ra rb => ?_⟩
    rw [ra.int_inv, rb.int_inv]
    cases hd
    simp [Instr.sameNow]
    rfl
  · rename_i a b
    refine ⟨_, h, fun e => by rw [seq_eq] at e; simp at e; rw [e], fun ρ va vb d hd ra rb => ?_⟩
    obtain ⟨ba, rfl, ea⟩ := ra.str_inv
    obtain ⟨bb, rfl, eb⟩ := rb.str_inv
    cases hd
    simp only [Instr.sameNow]
    rw [beq_toListBytes, eq_seq, ea, eb]
  · rename_i a b
    refine ⟨_, h, fun e => by simp at e; rw [e], fun ρ va vb d hd ra rb => ?_⟩
    rw [ra.bool_inv, rb.bool_inv]
    cases hd; rfl
  · cases h
theorem findE_true {key : V} : ∀ {es : List (V × V)} {n : Bool} {k : V → Bool}, findE key es n k = true →
    (n = true ∧ ∀ (ρ : Ren) (l : List MapEntry) (kv : Value) (d : TypeDesc) (i : Nat), KD d key → MR ρ es l → VR ρ key kv → Instr.findNow d kv l i = some none) ∨
    ∃ v, k v = true ∧ ∀ (ρ : Ren) (l : List MapEntry) (kv : Value) (d : TypeDesc) (i : Nat), KD d key → MR ρ es l → VR ρ key kv → ∃ j x, Instr.findNow d kv l i = some (some (j, x)) ∧ VR ρ v x
  | [], n, k, h => .inl ⟨h, fun ρ l kv d i hd hm hk => by cases hm; rfl⟩
  | (k1, v1) :: es, n, k, h => by
    obtain ⟨r, h1, _, h2⟩ := keyEq_true (show keyEq key k1 (fun r => bsel r (k v1) (findE key es n k)) = true from h)
    rw [bsel_eq] at h1
    cases r with
    | true =>
      refine .inr ⟨v1, by simpa using h1, fun ρ l kv d i hd hm hk => ?_⟩
      cases hm with
      | cons hk1 hv1 hm' =>
        rename_i e l
        exact ⟨i, e.val, by simp only [Instr.findNow, h2 ρ kv _ d hd hk hk1], hv1⟩
    | false =>
      rcases findE_true (show findE key es n k = true by simpa using h1) with ⟨h3, h4⟩ | ⟨v, h3, h4⟩
      · refine .inl ⟨h3, fun ρ l kv d i hd hm hk => ?_⟩
        cases hm with
        | cons hk1 hv1 hm' => simp only [Instr.findNow, h2 ρ kv _ d hd hk hk1]; exact h4 ρ _ kv d _ hd hm' hk
      · refine .inr ⟨v, h3, fun ρ l kv d i hd hm hk => ?_⟩
        cases hm with
        | cons hk1 hv1 hm' => simp only [Instr.findNow, h2 ρ kv _ d hd hk hk1]; exact h4 ρ _ kv d _ hd hm' hk
theorem checkKey_run {e : Bool} {n t : Nat} {d : TypeDesc} {key : V} {kv : Value} {ρ : Ren} (hu : P.underlying t = some d) (hd : KD d key) (hk : VR ρ key kv) (w : World) : (Instr.checkKey e (n + 1) t kv).run P w = .ok () w := by
  cases hd with
  | int => rw [hk.int_inv]; simp only [Instr.checkKey, Sem.run_bind, run_und hu, Result.andThen_ok]; rfl
  | str => obtain ⟨b, rfl, _⟩ := hk.str_inv; simp only [Instr.checkKey, Sem.run_bind, run_und hu, Result.andThen_ok]; rfl
  | bool => rw [hk.bool_inv]; simp only [Instr.checkKey, Sem.run_bind, run_und hu, Result.andThen_ok]; rfl
theorem findKey_run {t : Nat} {d : TypeDesc} {kv : Value} {l : List MapEntry} {r : Option (Nat × Value)} (hu : P.underlying t = some d) (h : Instr.findNow d kv l 0 = some r) (w : World) : (Instr.findKey t kv l).run P w = .ok r w := by
  simp only [Instr.findKey, Sem.run_bind, run_und hu, Result.andThen_ok, h]; rfl
theorem und_map {t : Nat} {d : Nat × Nat} (h : mapT P t = some d) : P.underlying t = some (.map d.1 d.2) := by
  unfold mapT at h; split at h
  · rename_i k e hu; cases h; exact hu
  · cases h
def LookAt (P : Program) (t : Nat) (m key : V) (ok : Bool) (h : H) (v : V) : Prop := ∀ hs, Ag h hs → ∀ (ρ : Ren) (w : World) (x y : Value), HR P ρ hs w → VR ρ m x → VR ρ key y → ∃ r, (Instr.lookup t x y ok).run P w = .ok r w ∧ VR ρ v r
theorem getObj_run {w : World} {c : Nat} {o : Go.Obj} (hc : ∀ a e f, o ≠ .cells a e f) (h : w.heap[c]? = some o) : (getObj c).run P w = .ok o w := by
  cases o <;> first | exact absurd rfl (hc _ _ _) | simp [getObj, Sem.run, h]
theorem VR.okV {ρ : Ren} {v : V} {x : Value} {b : Bool} (h : VR ρ v x) (ok : Bool) : VR ρ (Ev.okV ok v b) (if ok then .tuple #[x, .bool b] else x) := by
  cases ok with
  | false => exact h
  | true =>
    show VR ρ (.tuple [v, .bool b]) (.tuple #[x, .bool b])
    simp only [VR]
    exact ⟨_, rfl, VRL.cons h (VRL.cons (VR.bool _) VRL.nil)⟩
theorem lookK_true {et : Nat} {es : List (V × V)} {key : V} {ok : Bool} {k : V → Bool} (h : lookK P et es key ok k = true) : ∃ v, k v = true ∧ ∀ (ρ : Ren) (l : Array MapEntry) (kv : Value) (kt : Nat) (d : TypeDesc) (w : World), P.underlying kt = some d → KD d key →
    MR ρ es l.toList → VR ρ key kv → ∃ r, (Sem.run P (do
      let (v, is) ← match ← Instr.findKey kt kv l.toList with
        | some (_, v) => pure (v, true)
        | none => pure (← zeroValue et, false)
      pure (if ok then .tuple #[v, .bool is] else v)) w) = .ok r w ∧ VR ρ v r := by
  rcases findE_true h with ⟨h1, h2⟩ | ⟨v, h1, h2⟩
  · obtain ⟨z, hz, h3⟩ := og_true.1 h1
    obtain ⟨zv, hr, ho⟩ := run_zeroT hz
    refine ⟨_, h3, fun ρ l kv kt d w hu hd hm hk => ⟨_, ?_, VR.okV (ofV_VR ho) ok⟩⟩
    simp only [Sem.run_bind, findKey_run hu (h2 ρ _ kv d 0 hd hm hk), Result.andThen_ok, hr]
    rfl
  · refine ⟨_, h1, fun ρ l kv kt d w hu hd hm hk => ?_⟩
    obtain ⟨j, x, h3, h4⟩ := h2 ρ _ kv d 0 hd hm hk
    refine ⟨_, ?_, VR.okV h4 ok⟩
    simp only [Sem.run_bind, findKey_run hu h3, Result.andThen_ok]
    rfl
theorem lookM_true {t kt et : Nat} (ht : P.underlying t = some (.map kt et)) {m key : V} {ok : Bool} {h : H} {k : V → Bool} (hok : h.ok) (hk : lookM P kt et m key ok h k = true) : ∃ v, k v = true ∧ LookAt P t m key ok h v := by
  obtain ⟨h1, h2⟩ := bg_true.1 hk
  obtain ⟨d, hd, hkd⟩ := keyT_true h1
  rcases onMap_true.1 h2 with ⟨rfl, h3⟩ | ⟨b, rfl, h3⟩
  · obtain ⟨v, h4, h5⟩ := lookK_true h3
    refine ⟨v, h4, fun hs ha ρ w x y hr hx hy => ?_⟩
    obtain ⟨r, h6, h7⟩ := h5 ρ #[] y kt d w hd hkd .nil hy
    refine ⟨r, ?_, h7⟩
    rw [hx.nilm_inv]
    simp only [Instr.lookup, Sem.run_bind, run_und ht, Result.andThen_ok, Sem.run_pure, checkKey_run (n := 9999) hd hkd hy]
    simp only [Sem.run_bind] at h6
    exact h6
  · obtain ⟨es, hg, h4⟩ := mapK_true.1 h3
    obtain ⟨v, h5, h6⟩ := lookK_true h4
    refine ⟨v, h5, fun hs ha ρ w x y hr hx hy => ?_⟩
    obtain ⟨c, s, wl, hb, rfl⟩ := hx.map_inv
    obtain ⟨ob, ho, l, clock, rfl, hm, _⟩ := hr.obj _ _ _ _ _ hb (ha.some hok hg)
    obtain ⟨r, h7, h8⟩ := h6 ρ l y kt d w hd hkd hm hy
    refine ⟨r, ?_, h8⟩
    simp only [Instr.lookup, Sem.run_bind, run_und ht, Result.andThen_ok, Sem.run_pure, getObj_run (fun _ _ _ => by simp) ho, checkKey_run (n := 9999) hd hkd hy]
    simp only [Sem.run_bind] at h7
    exact h7
theorem oLookup_ok {t : Nat} {m key : Operand} {ok : Bool} {o : Oper} (ho : o.op = .lookup t m key ok) {tm : T V} {h : H} {k : KO} (hok : h.ok) (hk : oLookup P t m key ok tm h k = true) :
    ∃ v c, k v h c = true ∧ PureAt P o tm v h ∧ ∀ h2, h2.ok → c h2 = true → PureAt P o tm v h2 := by
  obtain ⟨vm, hm, hk⟩ := opdK_true.1 hk
  obtain ⟨vk, hkk, hk⟩ := opdK_true.1 hk
  obtain ⟨d, hd, hk⟩ := og_true.1 hk
  have ht := und_map hd
  have key' : ∀ (h0 : H) (v : V), LookAt P t vm vk ok h0 v → PureAt P o tm v h0 := fun h0 v hl hs ha ρ ev w hops hr => by
    obtain ⟨r, h1, h2⟩ := hl hs ha ρ w _ _ hr (hops m (by simp [ho, Op.operands]) _ hm) (hops key (by simp [ho, Op.operands]) _ hkk)
    exact ⟨r, by simp only [execOp, ho, Sem.run_bind, h1, Result.andThen_ok]; rfl, h2⟩
  obtain ⟨v, h1, h2⟩ := lookM_true (P := P) ht hok hk
  refine ⟨v, _, h1, key' h v h2, fun h3 hok3 hc => ?_⟩
  obtain ⟨v', h4, h5⟩ := lookM_true (P := P) ht hok3 hc
  have := V.beq_sound _ _ h4; subst this
  exact key' _ _ h5
end Go.Ev
/-
  ENGINE, PART 16: operations that make a block and change nothing else; what 'passive' means.
-/
namespace Go.Ev
variable {P : Program}

theorem HR.congr {ρ : Ren} {h : H} {w w' : World} (hr : HR P ρ h w) (e : w'.heap = w.heap) : HR P ρ h w' :=
  ⟨fun b c s wl hb => by rw [e]; exact hr.dom b c s wl hb, fun b c s wl o hb hg => by rw [e]; exact hr.obj b c s wl o hb hg, hr.inj, hr.glob⟩
def SameOs (w w' : World) : Prop := w'.os = w.os ∧ w'.output = w.output ∧ w'.tape = w.tape
theorem Mv.congr {ρ ρ' : Ren} {h h' : H} {w w1 w2 : World} (m : Mv ρ h w ρ' h' w1) (e : w2.heap = w1.heap) (s : SameOs w1 w2) : Mv ρ h w ρ' h' w2 :=
  ⟨m.le, m.next, by rw [e]; exact m.size, fun c hc hk => by rw [e]; exact m.keep c hc hk, m.wr, ⟨s.1.trans m.os.1, s.2.1.trans m.os.2.1, s.2.2.trans m.os.2.2⟩⟩
/-- the operation can be done in this heap and in all that have more: it makes the block nb at the most -/
def Good (P : Program) (o : Oper) (tm : T V) (v : V) (nb : Option Nat) (h : H) : Prop := (∀ b, nb = some b → b < h.next) ∧
  ∀ hs, Ag h hs → ∀ (ρ : Ren) (ev : Operand → Value) (w : World), OpsR ρ tm ev o.op.operands.toList → HR P ρ hs w → (∀ b, nb = some b → ρ b = none) →
    ∃ x w' ρ', (execOp ev o).run P w = .ok (.value x) w' ∧ Mv ρ hs w ρ' hs w' ∧ HR P ρ' hs w' ∧ VR ρ' v x ∧ Nw ρ ρ' fun b => nb = some b
theorem PureAt.good {o : Oper} {tm : T V} {v : V} {h : H} (g : PureAt P o tm v h) : Good P o tm v none h :=
  ⟨fun b hb => (by cases hb), fun hs ha ρ ev w hops hr _ => let ⟨x, h1, h2⟩ := g hs ha ρ ev w hops hr; ⟨x, w, ρ, h1, Mv.refl _ _ _, hr, h2, Nw.refl _ _⟩⟩
theorem Good.ag {o : Oper} {tm : T V} {v : V} {nb : Option Nat} {h h' : H} (g : Good P o tm v nb h) (a : Ag h h') : Good P o tm v nb h' :=
  ⟨fun b hb => Nat.lt_of_lt_of_le (g.1 b hb) a.next, fun hs ha => g.2 hs (a.trans ha)⟩

/-! ### new rows -/
def Made (h : H) (b : Nat) (l : List V) (e w fz : Nat) : Prop := ∃ cs, h.get b = some (.row l.length cs e w false fz) ∧ ∀ i v, i < l.length → cs.get i = some v → l[i]? = some v
theorem rowNew_eq (l : List V) (e w fz : Nat) (h : H) (k : Nat → H → Bool) : rowNew l e w fz h k = k h.next (h.new (.row l.length (T.ofList l 0 .L) e w false fz)) := by
  unfold rowNew
  rw [listK_eq, H.newK_eq, len0]
theorem made_new (l : List V) (e w fz : Nat) (h : H) : Made (h.new (.row l.length (T.ofList l 0 .L) e w false fz)) h.next l e w fz :=
  ⟨_, by rw [H.get_new, if_pos rfl], fun i v hi hv => get_made i v hi hv⟩
theorem eqRow_true {cs : T V} : ∀ {l : List V} {i : Nat}, eqRow l cs i = true → ∀ j, j < l.length → cs.get (i + j) = l[j]?
  | [], i, _, j, hj => by simp at hj
  | v :: l, i, h, j, hj => by
    obtain ⟨u, hu, h2⟩ := og_true.1 (show og (cs.get i) (fun u => bg (V.beq v u) (eqRow l cs (i + 1))) = true from h)
    obtain ⟨h3, h4⟩ := bg_true.1 h2
    have := V.beq_sound _ _ h3; subst this
    cases j with
    | zero => simpa using hu
    | succ j => have := eqRow_true h4 j (by simpa using hj); rw [show i + (j + 1) = i + 1 + j from by omega]; simpa using this
theorem chkRow_true {b : Nat} {l : List V} {e w fz : Nat} {h : H} (hc : chkRow b l e w fz h = true) : Made h b l e w fz := by
  obtain ⟨n, cs, e', w', ro, fz', hg, h1⟩ := rowK_true.1 hc
  obtain ⟨h2, g1⟩ := bg_true.1 h1
  obtain ⟨h3, g2⟩ := bg_true.1 g1
  obtain ⟨h4, g3⟩ := bg_true.1 g2
  rw [nbeq, decide_eq_true_iff] at h2 h3 h4
  rw [len0] at h2; subst h2; subst h3; subst h4
  cases ro with
  | true => cases g3
  | false =>
    obtain ⟨h5, h6⟩ := bg_true.1 (show bg (Nat.beq fz fz') (eqRow l cs 0) = true from g3)
    rw [nbeq, decide_eq_true_iff] at h5; subst h5
    refine ⟨cs, hg, fun i v hi hv => ?_⟩
    have := eqRow_true h6 i hi
    rw [Nat.zero_add] at this
    rw [← this]; exact hv
theorem Good.row {o : Oper} {tm : T V} {v : V} {h : H} {b e wi fz : Nat} {l : List V} (hok : h.ok) (hm : Made h b l e wi fz)
    (hrun : ∀ hs, Ag h hs → ∀ (ρ : Ren) (ev : Operand → Value) (w : World), OpsR ρ tm ev o.op.operands.toList → HR P ρ hs w → ∃ arr fr w' x wl, (execOp ev o).run P w = .ok (.value x) w' ∧ w'.heap = w.heap.push (.cells arr e fr) ∧ SameOs w w' ∧ wi = wl.1 ∧
      (wl.1 ≠ 0 → arr.size = wl.2) ∧ (∀ cs : T V, (∀ i v, i < l.length → cs.get i = some v → l[i]? = some v) → RowR ρ l.length cs wi false fz 0 arr fr) ∧ ∀ ρ' : Ren, ρ' b = some (w.heap.size, 0, wl) → VR ρ' v x) :
    Good P o tm v (some b) h := by
  obtain ⟨cs, hg, hcs⟩ := hm
  have hb := hok b _ hg
  refine ⟨fun b' hb' => by cases hb'; exact hb, fun hs ha ρ ev w hops hr hnb => ?_⟩
  obtain ⟨arr, fr, w', x, wl, h1, h2, h3, h4, h5, h6, h7⟩ := hrun hs ha ρ ev w hops hr
  have hn := hnb b rfl
  have hgs := ha.some hok hg
  have hr' := hr.alloc (b := b) (h' := hs) (ob := .cells arr e fr) (wl := wl) hn (Nat.lt_of_lt_of_le hb ha.next) (Nat.le_refl _) hgs (fun _ _ => rfl)
    ⟨h4, arr, fr, rfl, (h6 cs hcs).mono (Ren.add_le _ hn), h5⟩
  have hmv := Mv.alloc (h := hs) (h' := hs) (w := w) (ob := .cells arr e fr) (wl := wl) hn (Nat.le_refl _) (fun _ _ => rfl)
  exact ⟨x, w', _, h1, hmv.congr h2 h3, hr'.congr h2, h7 _ Ren.add_same, Nw.add rfl⟩
theorem oAlloc_ok {t : Nat} {o : Oper} (ho : o.op = .alloc t) {tm : T V} {h : H} {k : KO} (hok : h.ok) (hk : oAlloc P t tm h k = true) :
    ∃ v c o', k v (h.new o') c = true ∧ Good P o tm v (some h.next) (h.new o') ∧ ∀ h2, h2.ok → c h2 = true → Good P o tm v (some h.next) h2 := by
  obtain ⟨l, hl, hk⟩ := og_true.1 hk
  rw [rowNew_eq] at hk
  obtain ⟨z, hz, hzl⟩ := run_zcells hl
  have key : ∀ h0 : H, h0.ok → Made h0 h.next l t 0 1 → Good P o tm (.ptr h.next 0) (some h.next) h0 := fun h0 hok0 hm => by
    refine Good.row hok0 hm fun hs ha ρ ev w hops hr => ⟨z.cells, (0, 0), { w with heap := w.heap.push (.cells z.cells t) }, .pointer (some ⟨w.heap.size, 0, none⟩), (0, 0), ?_, rfl, ⟨rfl, rfl, rfl⟩, rfl, fun h => absurd rfl h, fun cs hcs => ?_, fun ρ' hρ => VR.ptr 0 hρ⟩
    · simp only [execOp, ho, Sem.run_bind, Instr.alloc, hz, Result.andThen_ok, newVar, newRow, run_newObj, Sem.run_pure]
    · have := RowR.made (hzl ρ) hcs 0 1; simpa using this
  exact ⟨_, _, _, hk, key _ (hok.new _) (made_new _ _ _ _ _), fun h2 hok2 hc => key h2 hok2 (chkRow_true hc)⟩
theorem oBox_ok {t : Nat} {x : Operand} {o : Oper} (ho : o.op = .box t x) {tm : T V} {h : H} {k : KO} (hok : h.ok) (hk : oBox t x tm h k = true) :
    ∃ v c o', k v (h.new o') c = true ∧ Good P o tm v (some h.next) (h.new o') ∧ ∀ h2, h2.ok → c h2 = true → Good P o tm v (some h.next) h2 := by
  obtain ⟨a, ha, hk⟩ := opdK_true.1 hk
  rw [cellsV_eq, rowNew_eq] at hk
  have key : ∀ h0 : H, h0.ok → Made h0 h.next (cells a) t 0 1 → Good P o tm (.ptr h.next 0) (some h.next) h0 := fun h0 hok0 hm => by
    refine Good.row hok0 hm fun hs hag ρ ev w hops hr => ⟨(ev x).cells, (0, 0), { w with heap := w.heap.push (.cells (ev x).cells t) }, .pointer (some ⟨w.heap.size, 0, none⟩), (0, 0), ?_, rfl, ⟨rfl, rfl, rfl⟩, rfl, fun h => absurd rfl h, fun cs hcs => ?_, fun ρ' hρ => VR.ptr 0 hρ⟩
    · simp only [execOp, ho, Sem.run_bind, Instr.box, Result.andThen_ok, newVar, newRow, run_newObj, Sem.run_pure]
    · have := RowR.made (hops x (by simp [ho, Op.operands]) _ ha).cells hcs 0 1; simpa using this
  exact ⟨_, _, _, hk, key _ (hok.new _) (made_new _ _ _ _ _), fun h2 hok2 hc => key h2 hok2 (chkRow_true hc)⟩

/-! ### zero values, many times -/
theorem repL_get (z : List V) : ∀ (n i : Nat), (repL z n)[i]? = if i < n * z.length then z[i % z.length]? else none := by
  intro n
  induction n with
  | zero => intro i; rw [show repL z 0 = [] from rfl]; simp
  | succ n ih =>
    intro i
    have e : repL z (n + 1) = app z (repL z n) := rfl
    rw [e, app_eq]
    by_cases hi : i < z.length
    · rw [List.getElem?_append_left hi, if_pos (by rw [Nat.succ_mul]; omega), Nat.mod_eq_of_lt hi]
    · rw [List.getElem?_append_right (by omega), ih]
      have e2 : i % z.length = (i - z.length) % z.length := Nat.mod_eq_sub_mod (by omega)
      rw [Nat.succ_mul, e2]
      by_cases h2 : i - z.length < n * z.length
      · rw [if_pos h2, if_pos (by omega)]
      · rw [if_neg h2, if_neg (by omega)]
theorem repL_length (z : List V) (n : Nat) : (repL z n).length = n * z.length := by
  induction n with
  | zero => rw [show repL z 0 = [] from rfl]; simp
  | succ n ih => have e : repL z (n + 1) = app z (repL z n) := rfl; rw [e, app_eq, List.length_append, ih, Nat.succ_mul]; omega
theorem VRL.rep {ρ : Ren} {z : List V} {zero : Array Value} (h : VRL ρ z zero.toList) (n : Nat) : VRL ρ (repL z n) ((Array.range (n * zero.size)).map (zero[· % zero.size]!)).toList := by
  have hl := h.length
  have hsz : zero.size = z.length := by simpa using hl
  refine VRL.of_get (by simp [repL_length, hsz]) fun i v hv => ?_
  rw [repL_get] at hv
  split at hv
  · rename_i hi
    obtain ⟨x, hx, hr⟩ := h.get hv
    refine ⟨x, ?_, hr⟩
    have hpos : 0 < z.length := by
      rcases Nat.eq_zero_or_pos z.length with e | e
      · rw [e] at hi; simp at hi
      · exact e
    have hlt : i % z.length < zero.size := by rw [hsz]; exact Nat.mod_lt _ hpos
    have e1 : zero[i % zero.size]! = x := by
      rw [hsz]
      have : zero[i % z.length]? = some x := by simpa using hx
      rw [getElem!_def, this]
    simp [hi, hsz]
    rw [← hsz, e1]
  · cases hv
end Go.Ev
/-
  ENGINE, PART 17: slices, maps and bytes that are made.
-/
namespace Go.Ev
variable {P : Program}

theorem VR.newSlice {ρ : Ren} {b c l n : Nat} (hρ : ρ b = some (c, 0, (0, 0))) (hl : l ≤ n) : VR ρ (.slice b 0 l n) (.slice (some ⟨c, 0, none⟩) l n) := by
  simp only [VR]
  exact ⟨c, 0, (0, 0), _, n, hρ, rfl, hl, Nat.le_refl _, fun _ => rfl, fun z h => by simp at h, .inr rfl⟩
theorem zeros_run {e sz n : Nat} {z : List V} (hz : zcells P e = some z) (hsz : sz = z.length) : ∃ zv : Value, ∃ zero : Array Value, (∀ w, (zeroValue e).run P w = .ok zv w) ∧ (n * sz = 0 → zero = #[]) ∧ (n * sz ≠ 0 → zero = zv.cells) ∧
    ∀ ρ, VRL ρ (repL z n) ((Array.range (n * sz)).map (zero[· % zero.size]!)).toList := by
  obtain ⟨zv, hr, hl⟩ := run_zcells hz
  by_cases h0 : n * sz = 0
  · refine ⟨zv, #[], hr, fun _ => rfl, fun h => absurd h0 h, fun ρ => ?_⟩
    rw [h0]
    have : repL z n = [] := List.length_eq_zero_iff.1 (by rw [repL_length, ← hsz, h0])
    rw [this]; simpa using VRL.nil
  · refine ⟨zv, zv.cells, hr, fun h => absurd h h0, fun _ => rfl, fun ρ => ?_⟩
    have hs : zv.cells.size = sz := by rw [hsz, ← (hl ρ).length]; simp
    have := (hl ρ).rep n
    rw [hs] at this ⊢; exact this
theorem oBuildSl_ok {t n : Nat} {ps : Array (Nat × Operand)} {o : Oper} (ho : o.op = .buildSlice t n ps) {tm : T V} {h : H} {k : KO} (hok : h.ok) (hk : oBuildSl P t n ps.toList tm h k = true) :
    ∃ v c o', k v (h.new o') c = true ∧ Good P o tm v (some h.next) (h.new o') ∧ ∀ h2, h2.ok → c h2 = true → Good P o tm v (some h.next) h2 := by
  obtain ⟨e, he, hk⟩ := og_true.1 hk
  obtain ⟨sz, hsz, hk⟩ := og_true.1 hk
  obtain ⟨hlim, hk⟩ := bg_true.1 hk
  obtain ⟨z, hz, hk⟩ := og_true.1 hk
  obtain ⟨hzl, hk⟩ := bg_true.1 hk
  rw [nbeq, len0, decide_eq_true_iff] at hzl
  rw [nble, decide_eq_true_iff] at hlim
  obtain ⟨l, hl, hlen, hgo⟩ := fillA_true hk
  rw [rowNew_eq] at hl
  have hu := und_slice he
  have key : ∀ h0 : H, h0.ok → Made h0 h.next l e 0 1 → Good P o tm (.slice h.next 0 n n) (some h.next) h0 := fun h0 hok0 hm => by
    refine Good.row hok0 hm fun hs ha ρ ev w hops hr => ?_
    obtain ⟨zv, zero, hzr, hz0, hz1, hz2⟩ := zeros_run (P := P) (n := n) hz hzl
    obtain ⟨arr, e1, e2⟩ := hgo ρ ev _ (fun p hp v hv => hops p.2 (parts_mem (.inr ⟨n, ho⟩) hp) v hv) (hz2 ρ) (by simp)
    refine ⟨arr, (0, 0), { w with heap := w.heap.push (.cells arr e) }, .slice (some ⟨w.heap.size, 0, none⟩) n n, (0, 0), ?_, rfl, ⟨rfl, rfl, rfl⟩, rfl, fun h => absurd rfl h, fun cs hcs => ?_, fun ρ' hρ => VR.newSlice hρ (Nat.le_refl _)⟩
    · have emap : (ps.map fun (i, x) => (i, ev x)).toList = ps.toList.map fun p => (p.1, ev p.2) := by simp
      have hlim' : ¬ (n * sz > 2 ^ 24) := by have : n * sz ≤ 16777216 := hlim; omega
      simp only [execOp, ho, Sem.run_bind, Instr.buildSlice, run_und hu, Result.andThen_ok, run_sizeT hsz]
      rw [if_neg hlim']
      by_cases h0 : n * sz = 0
      · rw [if_pos h0]
        have := hz0 h0; subst this
        simp only [Sem.run_bind, Result.andThen_ok, emap, e1, newRow, run_newObj, Sem.run_pure]
      · rw [if_neg h0]
        have := hz1 h0; subst this
        simp only [Sem.run_bind, hzr, Result.andThen_ok, emap, e1, newRow, run_newObj, Sem.run_pure]
    · have := RowR.made e2 hcs 0 1; simpa using this
  exact ⟨_, _, _, hl, key _ (hok.new _) (made_new _ _ _ _ _), fun h2 hok2 hc => key h2 hok2 (chkRow_true hc)⟩
theorem bytesT_info {t n : Nat} (h : bytesT P t = some n) (w : World) : ∃ i, (typeInfo t).run P w = .ok i w ∧ i.bytes = n := by
  unfold bytesT at h; split at h
  · rename_i i hi; cases h; exact ⟨i, by simp [typeInfo, Sem.run_bind, hi], rfl⟩
  · cases h
theorem wrap64 {n : Nat} (h : n < 9223372036854775808) : IntKind.i64.wrap (Int.ofNat n) = Int.ofNat n := wrap_pos h
theorem oMkSl_ok {t : Nat} {x y : Operand} {o : Oper} (ho : o.op = .makeSlice t x y) {tm : T V} {h : H} {k : KO} (hok : h.ok) (hk : oMkSl P t x y tm h k = true) :
    ∃ v c o', k v (h.new o') c = true ∧ Good P o tm v (some h.next) (h.new o') ∧ ∀ h2, h2.ok → c h2 = true → Good P o tm v (some h.next) h2 := by
  obtain ⟨e, he, hk⟩ := og_true.1 hk
  obtain ⟨vl, hvl, hk⟩ := opdK_true.1 hk
  obtain ⟨vc, hvc, hk⟩ := opdK_true.1 hk
  obtain ⟨j, l, rfl, hk2⟩ := natK_true.1 hk
  obtain ⟨j', c, rfl, hk3⟩ := natK_true.1 hk2
  obtain ⟨sz, hsz, hk⟩ := og_true.1 hk3
  obtain ⟨by_, hby, hk⟩ := og_true.1 hk
  obtain ⟨z, hz, hk⟩ := og_true.1 hk
  obtain ⟨hzl, hk⟩ := bg_true.1 hk
  obtain ⟨hlc, hk⟩ := bg_true.1 hk
  obtain ⟨hlim, hk⟩ := bg_true.1 hk
  rw [nbeq, len0, decide_eq_true_iff] at hzl
  rw [nble, decide_eq_true_iff] at hlim hlc
  rw [rowNew_eq] at hk
  have hu := und_slice he
  have hlim' : (by_ + 1) * c ≤ 281474976710656 := hlim
  have hc1 : c ≤ 281474976710656 := Nat.le_trans (Nat.le_mul_of_pos_left _ (Nat.succ_pos _)) hlim'
  have hc2 : by_ * c ≤ 281474976710656 := Nat.le_trans (Nat.mul_le_mul_right _ (Nat.le_succ _)) hlim'
  have key : ∀ h0 : H, h0.ok → Made h0 h.next (repL z c) e 0 1 → Good P o tm (.slice h.next 0 l c) (some h.next) h0 := fun h0 hok0 hm => by
    refine Good.row hok0 hm fun hs ha ρ ev w hops hr => ?_
    obtain ⟨zv, zero, hzr, hz0, hz1, hz2⟩ := zeros_run (P := P) (n := c) hz hzl
    obtain ⟨i, hi, hib⟩ := bytesT_info hby w
    have hx := (hops x (by simp [ho, Op.operands]) _ hvl).int_inv
    have hy := (hops y (by simp [ho, Op.operands]) _ hvc).int_inv
    refine ⟨(Array.range (c * sz)).map (zero[· % zero.size]!), (0, 0), { w with heap := w.heap.push (.cells ((Array.range (c * sz)).map (zero[· % zero.size]!)) e) }, .slice (some ⟨w.heap.size, 0, none⟩) l c, (0, 0), ?_, rfl, ⟨rfl, rfl, rfl⟩, rfl, fun h => absurd rfl h, fun cs hcs => ?_, fun ρ' hρ => VR.newSlice hρ hlc⟩
    · simp only [execOp, ho, Sem.run_bind, Instr.makeSlice, run_und hu, Result.andThen_ok, hx, hy, asInt, asIntOf, Sem.run_pure, hi]
      rw [wrap64 (n := l) (by omega), wrap64 (n := c) (by omega), hib]
      have hcond : ¬ ((decide (Int.ofNat c < 0) || decide ((by_ : Int) * Int.ofNat c > 2 ^ 48)) = true ∨ Int.ofNat l < 0 ∨ Int.ofNat l > Int.ofNat c) := by
        have h1 : (by_ : Int) * Int.ofNat c = ((by_ * c : Nat) : Int) := by simp
        rw [h1]
        simp
        omega
      have hcond' : ¬ ((((decide (Int.ofNat c < 0) || decide ((by_ : Int) * Int.ofNat c > 2 ^ 48)) || decide (Int.ofNat l < 0)) || decide (Int.ofNat l > Int.ofNat c)) = true) := by
        intro hh
        simp only [Bool.or_eq_true, decide_eq_true_eq] at hh hcond
        rcases hh with (hh | hh) | hh
        · exact hcond (.inl hh)
        · exact hcond (.inr (.inl hh))
        · exact hcond (.inr (.inr hh))
      rw [if_neg hcond']
      have t1 : (Int.ofNat c).toNat = c := rfl
      have t2 : (Int.ofNat l).toNat = l := rfl
      simp only [Sem.run_bind, run_askRoom, Result.andThen_ok, run_sizeT hsz, t1, t2]
      by_cases h0 : c * sz = 0
      · rw [if_pos h0]
        have := hz0 h0; subst this
        simp only [Sem.run_bind, Result.andThen_ok, newRow, run_newObj, Sem.run_pure]
      · rw [if_neg h0]
        have := hz1 h0; subst this
        simp only [Sem.run_bind, hzr, Result.andThen_ok, newRow, run_newObj, Sem.run_pure]
    · have := RowR.made (hz2 ρ) hcs 0 1; rwa [Array.toArray_toList] at this
  exact ⟨_, _, _, hk, key _ (hok.new _) (made_new _ _ _ _ _), fun h2 hok2 hc => key h2 hok2 (chkRow_true hc)⟩
theorem chkMap_true {b : Nat} {h : H} (hc : chkMap b h = true) : h.get b = some (.map []) := by
  obtain ⟨es, hg, h2⟩ := mapK_true.1 hc
  cases es with
  | nil => exact hg
  | cons e es => cases h2
theorem oMap_ok {t : Nat} {r : Option Operand} {o : Oper} (ho : o.op = .makeMap t r) {tm : T V} {h : H} {k : KO} (hok : h.ok) (hk : oMap r tm h k = true) :
    ∃ v c o', k v (h.new o') c = true ∧ Good P o tm v (some h.next) (h.new o') ∧ ∀ h2, h2.ok → c h2 = true → Good P o tm v (some h.next) h2 := by
  cases r with
  | some r => cases hk
  | none =>
    have hk' : h.newK (.map []) (fun b h' => k (.map b) h' (chkMap b)) = true := hk
    rw [H.newK_eq] at hk'
    have key : ∀ h0 : H, h0.ok → h0.get h.next = some (.map []) → Good P o tm (.map h.next) (some h.next) h0 := fun h0 hok0 hg => by
      have hb := hok0 _ _ hg
      refine ⟨fun b' hb' => by cases hb'; exact hb, fun hs ha ρ ev w hops hr hnb => ?_⟩
      have hn := hnb _ rfl
      refine ⟨.map (some w.heap.size), w.app (.map #[] 0), ρ.add h.next (w.heap.size, 0, (0, 0)), ?_, Mv.alloc hn (Nat.le_refl _) (fun _ _ => rfl), hr.alloc hn (Nat.lt_of_lt_of_le hb ha.next) (Nat.le_refl _) (ha.some hok0 hg) (fun _ _ => rfl) ⟨#[], 0, rfl, .nil, Born.nil⟩, ?_, Nw.add rfl⟩
      · simp only [execOp, ho, Option.map_none, Sem.run_bind, Instr.makeMap, run_newObj, Result.andThen_ok]; rfl
      · simp only [VR]; exact ⟨_, _, _, Ren.add_same, rfl⟩
    exact ⟨_, _, _, hk', key _ (hok.new _) (by rw [H.get_new, if_pos rfl]), fun h2 hok2 hc => key h2 hok2 (chkMap_true hc)⟩
theorem choose_cap (need old : Nat) (e : TypeId) (w : World) : ∃ cap, need ≤ cap ∧ (choose (.appendCap need old e)).run P w = .ok cap { w with drawn := w.drawn + 1 } := by
  refine ⟨_, ?_, by rw [run_choose]; exact if_neg (by simp [Question.forced])⟩
  simp only [Question.cut]; omega
theorem modify_push {α : Type} (a : Array α) (x : α) (f : α → α) : (a.push x).modify a.size f = a.push (f x) := by
  apply Array.ext_getElem?
  intro i
  rw [Array.getElem?_modify]
  by_cases h : a.size = i
  · subst h; simp
  · rw [if_neg h]
    rw [Array.getElem?_push, Array.getElem?_push, if_neg (fun e => h e.symm), if_neg (fun e => h e.symm)]
theorem natsV_VRL {ρ : Ren} (s : ByteArray) : VRL ρ (natsV (bytesOf s)) (s.data.map fun b => Value.int .u8 b.toNat).toList := by
  refine VRL.of_get (by simp [natsV, bytesOf]) fun i v hv => ?_
  unfold natsV bytesOf at hv
  rw [List.map_map, List.getElem?_map] at hv
  obtain ⟨b, hb, rfl⟩ := Option.map_eq_some_iff.1 hv
  refine ⟨.int .u8 b.toNat, ?_, VR.int _ _⟩
  simp only [Array.toList_map, List.getElem?_map, hb]; rfl
theorem strBytes_ok {s d e : Nat} {x : Operand} {o : Oper} (ho : o.op = .convert s d x) (hs : hasU P s = true) (hd : P.underlying d = some (.slice e)) (he : P.underlying e = some (.int .u8)) {tm : T V} {h : H} {v : V} (hv : opdV tm x = some v) {k : KO}
    (hok : h.ok) (hk : convK P s (.bytes e) v h k = true) :
    ∃ v c o', k v (h.new o') c = true ∧ Good P o tm v (some h.next) (h.new o') ∧ ∀ h2, h2.ok → c h2 = true → Good P o tm v (some h.next) h2 := by
  obtain ⟨ds, hds⟩ := und_has hs
  obtain ⟨l, rfl, hk2⟩ := vStr_true.1 (show vStr v (fun s => rowNew (natsV s) e 2 0 h fun b h' => k (.slice b 0 (len s 0) (len s 0)) h' (chkRow b (natsV s) e 2 0)) = true from hk)
  rw [rowNew_eq, len0] at hk2
  replace hk := hk2
  have key : ∀ h0 : H, h0.ok → Made h0 h.next (natsV l) e 2 0 → Good P o tm (.slice h.next 0 l.length l.length) (some h.next) h0 := fun h0 hok0 hm => by
    refine Good.row hok0 hm fun hs ha ρ ev w hops hr => ?_
    obtain ⟨b, hb, hbl⟩ := (hops x (by simp [ho, Op.operands]) _ hv).str_inv
    obtain ⟨cap, hcap, hch⟩ := choose_cap (P := P) b.size 0 e w
    let arr : Array Value := (b.data.map fun b => Value.int .u8 b.toNat) ++ Array.replicate (cap - b.size) (.int .u8 0)
    have hsz : arr.size = cap := by
      have : b.data.size = b.size := rfl
      simp only [arr, Array.size_append, Array.size_map, Array.size_replicate]; omega
    have hll : l.length = b.size := by rw [← hbl, bytesOf_length]
    refine ⟨arr, (arr.size, arr.size + 1), { w with drawn := w.drawn + 1, heap := w.heap.push (.cells arr e (arr.size, arr.size + 1)) }, .slice (some ⟨w.heap.size, 0, none⟩) b.size cap, (2, arr.size), ?_, rfl, ⟨rfl, rfl, rfl⟩, rfl, fun _ => rfl, fun cs hcs => ?_, fun ρ' hρ => ?_⟩
    · simp only [execOp, ho, Sem.run_bind, hb, conv_strBytes hds hd he, Conv.stringToBytes, hch, Result.andThen_ok, newRow, run_newObj, Sem.run_pure, markStringish, run_shape]
      have hsh : World.shape? { w with drawn := w.drawn + 1, heap := w.heap.push (.cells arr e) } w.heap.size = some (e, arr.size) := by simp [World.shape?]
      simp only [arr] at hsh
      simp only [hsh, run_freeze, Sem.run_bind, Result.andThen_ok]
      simp only [World.freeze, Nat.succ_ne_zero, if_false, modify_push]
      simp [arr]
    · have hn := natsV_VRL (ρ := ρ) b
      rw [hbl] at hn
      refine ⟨by simp only [Nat.zero_add, natsV, List.length_map]; omega, fun h0 => absurd h0 (by decide), fun i v hi hg => ?_, fun _ => .inr ⟨rfl, Nat.le_refl _⟩⟩
      obtain ⟨y, hy, hv⟩ := hn.get (hcs i v hi hg)
      refine ⟨y, ?_, hv⟩
      rw [Nat.zero_add]
      simp only [arr]
      rw [Array.getElem?_append_left]
      · simpa using hy
      · have := (List.getElem?_eq_some_iff.1 hy).1; simpa using this
    · simp only [VR]
      rw [hll]
      exact ⟨w.heap.size, 0, (2, arr.size), _, cap, hρ, rfl, Nat.le_refl _, hcap, fun h => absurd h (by simp), fun z hz => by cases hz; rw [hsz]; simp, .inr rfl⟩
  refine ⟨_, _, _, hk, key _ (hok.new _) (made_new _ _ _ _ _), fun h2 hok2 hc => key h2 hok2 (chkRow_true hc)⟩
end Go.Ev
/-
  ENGINE, PART 18: all passive operations.
-/
namespace Go.Ev
variable {P : Program}

def Passive (P : Program) (o : Oper) (tm : T V) (h : H) (k : KO) : Prop :=
  ∃ v h1 c nb, k v h1 c = true ∧ Ag h h1 ∧ h1.ok ∧ Ext h h1 ∧ Good P o tm v nb h1 ∧ (∀ b, nb = some b → h.next ≤ b) ∧ (∀ h2 : H, h2.ok → c h2 = true → Good P o tm v nb h2) ∧ (isRd o.op = false → ∀ h2, Good P o tm v nb h2)
theorem Passive.pure {o : Oper} {tm : T V} {h : H} {k : KO} (hok : h.ok) (hp : ∃ v, k v h yes = true ∧ Pure P o tm v) : Passive P o tm h k := by
  obtain ⟨v, h1, h2⟩ := hp
  exact ⟨v, h, _, none, h1, Ag.refl _, hok, Ext.refl _, (h2.at h).good, fun b hb => (by cases hb), fun h3 _ _ => (h2.at h3).good, fun _ h3 => (h2.at h3).good⟩
theorem Passive.read {o : Oper} {tm : T V} {h : H} {k : KO} (hok : h.ok) (hrd : isRd o.op = true) (hp : ∃ v c, k v h c = true ∧ PureAt P o tm v h ∧ ∀ h2 : H, h2.ok → c h2 = true → PureAt P o tm v h2) : Passive P o tm h k := by
  obtain ⟨v, c, h1, h2, h3⟩ := hp
  exact ⟨v, h, c, none, h1, Ag.refl _, hok, Ext.refl _, h2.good, fun b hb => (by cases hb), fun h4 hok4 hc => (h3 h4 hok4 hc).good, fun e => by rw [hrd] at e; cases e⟩
theorem Passive.alloc {o : Oper} {tm : T V} {h : H} {k : KO} (hok : h.ok) (hrd : isRd o.op = true)
    (hp : ∃ v c o', k v (h.new o') c = true ∧ Good P o tm v (some h.next) (h.new o') ∧ ∀ h2 : H, h2.ok → c h2 = true → Good P o tm v (some h.next) h2) : Passive P o tm h k := by
  obtain ⟨v, c, o', h1, h2, h3⟩ := hp
  exact ⟨v, _, c, _, h1, Ag.new _ _, hok.new _, Ext.new _ _, h2, fun b hb => (by cases hb; exact Nat.le_refl _), h3, fun e => by rw [hrd] at e; cases e⟩
theorem builtin_v {b : Builtin} {ts : Array TypeId} {ty : TypeId} {consts : Array Bool} {args : Array Value} {w w' : World} {s : Sem Value} {x : Value} (hb : builtin b ts ty consts args = (do pure (.value (← s)))) (hs : s.run P w = .ok x w') :
    (builtin b ts ty consts args).run P w = .ok (.value x) w' := by
  rw [hb]; simp only [Sem.run_bind, hs, Result.andThen_ok]; rfl
theorem passive_ok {self : Self} {o : Oper} {tm : T V} {h : H} {k : KO} (hact : isAct o.op = false) (hok : h.ok) (hk : opS P self o.op tm h k = true) : Passive P o tm h k := by
  cases hop : o.op with
  | move x => rw [hop] at hk; exact .pure hok (oMove_ok (.inl hop) hk)
  | assign x => rw [hop] at hk; exact .pure hok (oMove_ok (.inr hop) hk)
  | pick c a b => rw [hop] at hk; exact .pure hok (oPick_ok hop hk)
  | alloc t => rw [hop] at hk; exact .alloc hok (by rw [hop]; rfl) (oAlloc_ok hop hok hk)
  | box t x => rw [hop] at hk; exact .alloc hok (by rw [hop]; rfl) (oBox_ok hop hok hk)
  | build t ps => rw [hop] at hk; exact .pure hok (oBuild_ok hop hk)
  | buildSlice t n ps => rw [hop] at hk; exact .alloc hok (by rw [hop]; rfl) (oBuildSl_ok hop hok hk)
  | load t a => rw [hop] at hk; exact .read hok (by rw [hop]; rfl) (oLoad_ok hop hok hk)
  | nilCheck x => rw [hop] at hk; exact .pure hok (oNil_ok hop hk)
  | binOp op t x y t' => rw [hop] at hk; exact .pure hok (oBin_ok hop hk)
  | unOp op t x => rw [hop] at hk; exact .pure hok (oUn_ok hop hk)
  | convert s d x =>
    rw [hop] at hk
    have hrd : isRd o.op = true := by rw [hop]; rfl
    obtain ⟨a, ha, hk⟩ := opdK_true.1 (show oConv P s d x tm h k = true from hk)
    obtain ⟨kd, hkd, hk⟩ := og_true.1 hk
    obtain ⟨hs, hk⟩ := bg_true.1 hk
    have hK := kindT_true hkd
    by_cases hb : ∃ e, kd = .bytes e
    · obtain ⟨e, rfl⟩ := hb
      cases hK with
      | bytes hd he => exact .alloc hok hrd (strBytes_ok hop hs hd he ha hok hk)
    · obtain ⟨v, c, h1, h2, h3⟩ := convK_true (P := P) hok hK hs (fun e he => hb ⟨e, he⟩) hk
      have key : ∀ h0, ConvAt P s d a h0 v → PureAt P o tm v h0 := fun h0 hc hs' hag ρ ev w hops hr => by
        obtain ⟨r, h4, h5⟩ := hc hs' hag ρ w _ hr (hops x (by simp [hop, Op.operands]) _ ha)
        exact ⟨r, by simp only [execOp, hop, Sem.run_bind, h4, Result.andThen_ok]; rfl, h5⟩
      exact .read hok hrd ⟨v, c, h1, key h h2, fun h4 hok4 hc => key h4 (h3 h4 hok4 hc)⟩
  | makeInterface t x => rw [hop] at hk; exact .pure hok (oIface_ok hop hk)
  | makeFunc f a c => rw [hop] at hk; exact .pure hok (oFunc_ok hop hk)
  | makeMap t r => rw [hop] at hk; exact .alloc hok (by rw [hop]; rfl) (oMap_ok hop hok hk)
  | makeSlice t l c => rw [hop] at hk; exact .alloc hok (by rw [hop]; rfl) (oMkSl_ok hop hok hk)
  | slice t x lo hi mx => rw [hop] at hk; exact .read hok (by rw [hop]; rfl) (oSlice_ok hop hok hk)
  | fieldAddr t x f => rw [hop] at hk; exact .pure hok (oFieldA_ok hop hk)
  | field t x f => rw [hop] at hk; exact .pure hok (oField_ok hop hk)
  | indexAddr t x i => rw [hop] at hk; exact .pure hok (oIndexA_ok hop hk)
  | index t x i => rw [hop] at hk; exact .pure hok (oIndex_ok hop hk)
  | lookup t m key ok => rw [hop] at hk; exact .read hok (by rw [hop]; rfl) (oLookup_ok hop hok hk)
  | extract x i => rw [hop] at hk; exact .pure hok (oExtract_ok hop hk)
  | call c =>
    rw [hop] at hk hact
    obtain ⟨args, hargs, hk⟩ := opdsK_true.1 (show opdsK c.args.toList tm (fun args => Callee.rec (motive := fun _ => Bool) (fun f => opdK f tm fun f => callV self f args h fun v h' => k v h' yes) (fun _ _ => false) (fun b => bi P b c.argTypes.toList args h k) c.callee) = true from hk)
    cases hc : c.callee with
    | value f => simp [isAct, hc] at hact
    | invoke r n => rw [hc] at hk; cases hk
    | builtin b =>
      rw [hc] at hk
      replace hk : bi P b c.argTypes.toList args h k = true := hk
      simp only [isAct, hc] at hact
      have hrun (ev : Operand → Value) (w : World) := exec_builtin (P := P) hop hc ev w
      match args, hargs, hk with
      | [], _, hk => cases hk
      | [x], hargs, hk =>
        obtain ⟨t, ht, hk⟩ := og_true.1 (show og (nth c.argTypes.toList 0) (fun t => bi1 P b t x h k) = true from hk)
        cases b <;> simp at hact
        case cap =>
          obtain ⟨v, cc, h1, h2, h3⟩ := capK_true (P := P) hok (show capK P t x h (fun v c => k v h c) = true from hk)
          have key : ∀ h0, CapAt P t x h0 v → PureAt P o tm v h0 := fun h0 hcap hs' hag ρ ev w hops hr => by
            obtain ⟨consts, e⟩ := hrun ev w
            obtain ⟨y, ey, hy⟩ := args1 hop hops hargs
            obtain ⟨r, h4, h5⟩ := hcap hs' hag c.argTypes o.type ρ w y (ts0 ht) hr hy
            exact ⟨r, by rw [e, ey]; exact builtin_v rfl h4, h5⟩
          exact .read hok (by simp [isRd, hop, hc]) ⟨v, cc, h1, key h h2, fun h4 hok4 hc' => key h4 (h3 h4 hok4 hc')⟩
        case len =>
          obtain ⟨v, h1, h2⟩ := lenK_true (P := P) (show lenK P t x (fun v => k v h yes) = true from hk)
          refine .pure hok ⟨v, h1, fun ρ ev w hops => ?_⟩
          obtain ⟨consts, e⟩ := hrun ev w
          obtain ⟨y, ey, hy⟩ := args1 hop hops hargs
          obtain ⟨r, h4, h5⟩ := h2 c.argTypes o.type ρ y w (ts0 ht) hy
          exact ⟨r, by rw [e, ey]; exact builtin_v rfl h4, h5⟩
        case unsafeSliceData =>
          obtain ⟨v, h1, h2⟩ := sdK_true (P := P) (show sdK x (fun v => k v h yes) = true from hk)
          refine .pure hok ⟨v, h1, fun ρ ev w hops => ?_⟩
          obtain ⟨consts, e⟩ := hrun ev w
          obtain ⟨y, ey, hy⟩ := args1 hop hops hargs
          obtain ⟨r, h4, h5⟩ := h2 c.argTypes o.type ρ y w hy
          exact ⟨r, by rw [e, ey]; exact builtin_v rfl h4, h5⟩
        all_goals cases hk
      | [x, y], hargs, hk =>
        obtain ⟨t, ht, hk⟩ := og_true.1 (show og (nth c.argTypes.toList 0) (fun t => og (nth c.argTypes.toList 1) fun t2 => bi2 P b t t2 x y h k) = true from hk)
        obtain ⟨t2, ht2, hk⟩ := og_true.1 hk
        cases b <;> simp at hact
        case max =>
          obtain ⟨v, h1, h2⟩ := mmK_true (P := P) (show mmK true x y (fun v => k v h yes) = true from hk)
          refine .pure hok ⟨v, h1, fun ρ ev w hops => ?_⟩
          obtain ⟨consts, e⟩ := hrun ev w
          obtain ⟨a, b, ey, hy, hy2⟩ := args2 hop hops hargs
          obtain ⟨r, h4, h5⟩ := h2 c.argTypes o.type ρ a b w hy hy2
          exact ⟨r, by rw [e, ey]; exact builtin_v rfl h4, h5⟩
        case min =>
          obtain ⟨v, h1, h2⟩ := mmK_true (P := P) (show mmK false x y (fun v => k v h yes) = true from hk)
          refine .pure hok ⟨v, h1, fun ρ ev w hops => ?_⟩
          obtain ⟨consts, e⟩ := hrun ev w
          obtain ⟨a, b, ey, hy, hy2⟩ := args2 hop hops hargs
          obtain ⟨r, h4, h5⟩ := h2 c.argTypes o.type ρ a b w hy hy2
          exact ⟨r, by rw [e, ey]; exact builtin_v rfl h4, h5⟩
        all_goals cases hk
      | x :: y :: z :: l, _, hk => cases hk
  | _ => rw [hop] at hk hact; first | (cases hact; done) | cases hk
end Go.Ev
/-
  ENGINE, PART 19: stores, and what else writes, without a call.
-/
namespace Go.Ev
variable {P : Program}

/-- what an operation does, from one heap to another -/
def Does (P : Program) (o : Oper) (tm : T V) (h : H) (v : V) (h' : H) : Prop :=
  ∀ (ρ : Ren) (ev : Operand → Value) (w : World), OpsR ρ tm ev o.op.operands.toList → HR P ρ h w → ∃ res x w' ρ', (execOp ev o).run P w = .ok res w' ∧ (res = .value x ∨ (res = .skip ∧ x = undef)) ∧
    Mv ρ h w ρ' h' w' ∧ HR P ρ' h' w' ∧ VR ρ' v x ∧ Nw ρ ρ' fun b => h.next ≤ b
def Active (P : Program) (o : Oper) (tm : T V) (h : H) (k : KO) : Prop := ∃ v h', k v h' yes = true ∧ h'.ok ∧ Ext h h' ∧ Does P o tm h v h'
theorem VR.undef {ρ : Ren} : VR ρ (.tuple []) Go.undef := by simp only [VR]; exact ⟨#[], rfl, VRL.nil⟩

/-! ### stores -/
theorem RowR.room {ρ : Ren} {n fz s wi : Nat} {cs : T V} {ro : Bool} {arr : Array Value} {fr : Nat × Nat} (hr : RowR ρ n cs wi ro fz s arr fr) (hro : ro = false) {i : Nat} (hf : fz ≤ i + 1) : fr.2 ≤ s + i ∨ arr.size ≤ fr.1 := by
  rcases hr.free hro with h | h
  · exact .inl (by omega)
  · exact .inr h.2
/-- cells that are stored at a place of a row of ours -/
def StoresAt (P : Program) (h : H) (b o : Nat) (l : List V) (h' : H) : Prop := ∀ (ρ : Ren) (w : World) (xs : List Value) (c s : Nat) (wl : Wl), HR P ρ h w → ρ b = some (c, s, wl) → VRL ρ l xs →
  ∃ w', (storeCells ⟨c, s + o, none⟩ xs).run P w = .ok () w' ∧ Mv ρ h w ρ h' w' ∧ HR P ρ h' w'
theorem VRL.ones {ρ : Ren} : ∀ {l : List V} {xs : List Value}, VRL ρ l xs → (∀ v ∈ l, one v = true) → ∀ x ∈ xs, x.oneCell' = true
  | [], xs, h, _ => by have := h.nil_inv; subst this; simp
  | v :: l, xs, h, h1 => by
    obtain ⟨x, xs, rfl, h2, h3⟩ := h.cons_inv
    intro y hy
    rcases List.mem_cons.1 hy with rfl | hy
    · exact h2.one (h1 v (by simp))
    · exact VRL.ones h3 (fun u hu => h1 u (by simp [hu])) y hy
theorem storeRow_true {b o : Nat} {l : List V} {h : H} {k : H → Bool} (hok : h.ok) (hk : storeRow b o l h k = true) : ∃ h', k h' = true ∧ h'.ok ∧ Ext h h' ∧ StoresAt P h b o l h' := by
  obtain ⟨n, cs, e, wi, ro, fz, hg, hk⟩ := rowK_true.1 hk
  cases ro with
  | true => cases hk
  | false =>
    obtain ⟨h1, hk⟩ := bg_true.1 (show bg (Nat.ble (Nat.add o (len l 0)) n) (bg (Nat.ble fz (Nat.succ o)) (stK l cs o fun cs' => h.putK b (some (.row n cs' e wi false fz)) k)) = true from hk)
    obtain ⟨h2, hk⟩ := bg_true.1 hk
    rw [nble, len0, decide_eq_true_iff] at h1
    rw [nble, decide_eq_true_iff] at h2
    obtain ⟨h3, h4⟩ := stK_true.1 hk
    rw [H.putK_eq] at h4
    refine ⟨_, h4, hok.put (hok _ _ hg), Ext.put _ _ _, fun ρ w xs c s wl hr hb hl => ?_⟩
    obtain ⟨hwi, arr, fr, hh, hrow, hsz⟩ := hr.row hb hg
    have hlen := hl.length
    have h1' : o + l.length ≤ n := h1
    have hfits := hrow.fits
    refine ⟨_, run_storeCells_row xs 0 arr w hh (by omega) (by simpa using hrow.room rfl h2) (hl.ones h3), ?_, ?_⟩
    · exact Mv.store hb hg rfl
    · refine hr.store hb hg rfl ⟨hwi, _, fr, rfl, ?_, fun hne => by simpa using hsz hne⟩
      rw [Nat.add_zero]
      exact hrow.stored hl h1'
theorem storeK_true {t : Nat} {p v : V} {h : H} {k : H → Bool} (hok : h.ok) (hk : storeK P t p v h k = true) : ∃ h', k h' = true ∧ h'.ok ∧ Ext h h' ∧
    ∀ (ρ : Ren) (w : World) (y x : Value), HR P ρ h w → VR ρ p y → VR ρ v x → ∃ w', (Instr.storeAt t y x).run P w = .ok () w' ∧ Mv ρ h w ρ h' w' ∧ HR P ρ h' w' := by
  obtain ⟨b, o, rfl, hk2⟩ := vPtr_true.1 hk
  rw [cellsV_eq] at hk2
  obtain ⟨sz, hsz, hk3⟩ := og_true.1 hk2
  obtain ⟨h1, hk4⟩ := bg_true.1 hk3
  rw [nbeq, len0, decide_eq_true_iff] at h1
  obtain ⟨h', h2, h3, h4, h5⟩ := storeRow_true (P := P) hok hk4
  refine ⟨h', h2, h3, h4, fun ρ w y x hr hy hx => ?_⟩
  obtain ⟨c, s, wl, hb, rfl⟩ := hy.ptr_inv
  obtain ⟨w', e1, e2, e3⟩ := h5 ρ w x.cells.toList c s wl hr hb hx.cells
  refine ⟨w', ?_, e2, e3⟩
  have hsize : x.cells.size = sz := by rw [h1, ← hx.cells.length]; simp
  simp only [Instr.storeAt, Instr.sureAddr, Sem.run_bind, Sem.run_pure, Result.andThen_ok, storeVar, run_sizeT hsz]
  rw [if_neg (by simp [hsize])]
  simp only [Sem.run_bind, Sem.run_pure, Result.andThen_ok, e1]
theorem oStore_ok {t : Nat} {a x : Operand} {o : Oper} (ho : o.op = .store t a x) {tm : T V} {h : H} {k : KO} (hok : h.ok) (hk : oStore P t a x tm h k = true) : Active P o tm h k := by
  obtain ⟨p, hp, hk⟩ := opdK_true.1 hk
  obtain ⟨v, hv, hk⟩ := opdK_true.1 hk
  obtain ⟨h', h1, h2, h3, h4⟩ := storeK_true (P := P) hok hk
  refine ⟨_, h', h1, h2, h3, fun ρ ev w hops hr => ?_⟩
  obtain ⟨w', e1, e2, e3⟩ := h4 ρ w _ _ hr (hops a (by simp [ho, Op.operands]) p hp) (hops x (by simp [ho, Op.operands]) v hv)
  refine ⟨.skip, undef, w', ρ, ?_, .inr ⟨rfl, rfl⟩, e2, e3, VR.undef, Nw.refl _ _⟩
  simp only [execOp, ho, Sem.run_bind, e1, Result.andThen_ok]; rfl

/-! ### maps -/
theorem setObj_run {w : World} {c : Nat} {o o' : Go.Obj} (h : w.heap[c]? = some o) (hc : ∀ a e f, o ≠ .cells a e f) (hc' : ∀ a e f, o' ≠ .cells a e f) : (setObj c o').run P w = .ok () (w.putB c o') := by
  have hlt : c < w.heap.size := (Array.getElem?_eq_some_iff.1 h).1
  cases o <;> first | exact absurd rfl (hc _ _ _) | (cases o' <;> first | exact absurd rfl (hc' _ _ _) | simp [setObj, Sem.run, h, World.putB])
theorem updE_true {key v : V} : ∀ {es : List (V × V)} {k : List (V × V) → Bool}, updE key v es k = true → ∃ es', k es' = true ∧ ∀ (ρ : Ren) (l : List MapEntry) (kv vv : Value) (d : TypeDesc) (i : Nat), KD d key → MR ρ es l → VR ρ key kv → VR ρ v vv →
      (Instr.findNow d kv l i = some none ∧ ∀ n, MR ρ es' (l ++ [⟨kv, vv, n⟩])) ∨ (∃ j x e, Instr.findNow d kv l i = some (some (i + j, x)) ∧ l[j]? = some e ∧ VR ρ key e.key ∧ MR ρ es' (l.modify j fun e => { e with key := kv, val := vv }))
  | [], k, h => ⟨_, h, fun ρ l kv vv d i hd hm hk hv => by cases hm; exact .inl ⟨rfl, fun n => .cons hk hv .nil⟩⟩
  | (k1, v1) :: es, k, h => by
    obtain ⟨r, h1, heq, h2⟩ := keyEq_true (show keyEq key k1 (fun r => bsel r (k ((key, v) :: es)) (updE key v es fun es' => k ((k1, v1) :: es'))) = true from h)
    rw [bsel_eq] at h1
    cases r with
    | true =>
      have := heq rfl; subst this
      refine ⟨_, by simpa using h1, fun ρ l kv vv d i hd hm hk hv => ?_⟩
      cases hm with
      | cons hk1 hv1 hm' =>
        rename_i e l
        exact .inr ⟨0, e.val, e, by simp only [Instr.findNow, h2 ρ kv _ d hd hk hk1]; rfl, rfl, hk1, .cons hk hv hm'⟩
    | false =>
      obtain ⟨es', h3, h4⟩ := updE_true (show updE key v es (fun es' => k ((k1, v1) :: es')) = true by simpa using h1)
      refine ⟨_, h3, fun ρ l kv vv d i hd hm hk hv => ?_⟩
      cases hm with
      | cons hk1 hv1 hm' =>
        rename_i e l
        rcases h4 ρ l kv vv d (i + 1) hd hm' hk hv with ⟨h5, h6⟩ | ⟨j, x, e', h5, h6, h7, h8⟩
        · exact .inl ⟨by simp only [Instr.findNow, h2 ρ kv _ d hd hk hk1]; exact h5, fun n => .cons hk1 hv1 (h6 n)⟩
        · refine .inr ⟨j + 1, x, e', ?_, by simpa using h6, h7, ?_⟩
          · simp only [Instr.findNow, h2 ρ kv _ d hd hk hk1]; rw [h5]; congr 3; omega
          · simpa using MR.cons hk1 hv1 h8
theorem sameBits_same {d : TypeDesc} {key : V} {a b : Value} {ρ : Ren} (hd : KD d key) (ha : VR ρ key a) (hb : VR ρ key b) : Instr.sameBits 10000 a b = true := by
  cases hd with
  | int => rw [ha.int_inv, hb.int_inv]; simp [Instr.sameBits]
  | str =>
    obtain ⟨x, rfl, hx⟩ := ha.str_inv
    obtain ⟨y, rfl, hy⟩ := hb.str_inv
    have : x = y := bytesOf_inj.1 (hx.trans hy.symm)
    subst this; simp only [Instr.sameBits]; rw [beq_toListBytes, eq_seq, seq_eq]; simp
  | bool => rw [ha.bool_inv, hb.bool_inv]; simp [Instr.sameBits]
theorem oUpd_ok {t : Nat} {m key x : Operand} {o : Oper} (ho : o.op = .mapUpdate t m key x ∨ o.op = .insert t m key x) {tm : T V} {h : H} {k : KO} (hok : h.ok) (hk : oUpd P t m key x tm h k = true) : Active P o tm h k := by
  obtain ⟨vm, hm, hk⟩ := opdK_true.1 hk
  obtain ⟨vk, hvk, hk⟩ := opdK_true.1 hk
  obtain ⟨v, hv, hk⟩ := opdK_true.1 hk
  obtain ⟨d, hd, hk⟩ := og_true.1 hk
  obtain ⟨hkt, hk⟩ := bg_true.1 hk
  obtain ⟨b, rfl, hk2⟩ := vMap_true.1 hk
  obtain ⟨es, hg, hk3⟩ := mapK_true.1 hk2
  obtain ⟨es', hk4, hup⟩ := updE_true hk3
  rw [H.putK_eq] at hk4
  have ht := und_map hd
  obtain ⟨dk, hdk, hKD⟩ := keyT_true hkt
  refine ⟨_, _, hk4, hok.put (hok _ _ hg), Ext.put _ _ _, fun ρ ev w hops hr => ?_⟩
  have mem : m ∈ o.op.operands.toList ∧ key ∈ o.op.operands.toList ∧ x ∈ o.op.operands.toList := by rcases ho with ho | ho <;> simp [ho, Op.operands]
  obtain ⟨c, s, wl, hb, em⟩ := (hops m mem.1 _ hm).map_inv
  have hkv := hops key mem.2.1 _ hvk
  have hvv := hops x mem.2.2 _ hv
  obtain ⟨ob, ho1, l, clock, rfl, hmr, hbn⟩ := hr.obj _ _ _ _ _ hb hg
  have fin : ∀ l' clock', MR ρ es' l'.toList → Born l'.toList clock' → (Instr.mapUpdate t (ev m) (ev key) (ev x)).run P w = .ok () (w.putB c (.map l' clock')) →
      ∃ res x_1 w' ρ', (execOp ev o).run P w = .ok res w' ∧ (res = .value x_1 ∨ (res = .skip ∧ x_1 = undef)) ∧ Mv ρ h w ρ' (h.put b (some (.map es'))) w' ∧ HR P ρ' (h.put b (some (.map es'))) w' ∧ VR ρ' (.tuple []) x_1 ∧ Nw ρ ρ' fun b => h.next ≤ b := by
    intro l' clock' hmr' hbn' hrun
    refine ⟨.skip, undef, _, ρ, ?_, .inr ⟨rfl, rfl⟩, Mv.store (ob' := .map l' clock') hb hg rfl, hr.store hb hg rfl ⟨l', clock', rfl, hmr', hbn'⟩, VR.undef, Nw.refl _ _⟩
    rcases ho with ho | ho <;> (simp only [execOp, ho, Sem.run_bind, hrun, Result.andThen_ok]; rfl)
  rcases hup ρ l.toList (ev key) (ev x) dk 0 hKD hmr hkv hvv with ⟨h5, h6⟩ | ⟨j, y, e, h5, h6, h7, h8⟩
  · refine fin (l.push ⟨ev key, ev x, clock⟩) (clock + 1) (by simpa using h6 clock) (by simpa using hbn.push (ev key) (ev x)) ?_
    rw [em]
    simp only [Instr.mapUpdate, Sem.run_bind, run_und ht, Result.andThen_ok, getObj_run (fun _ _ _ => by simp) ho1, checkKey_run (n := 9999) hdk hKD hkv, findKey_run hdk h5]
    exact setObj_run ho1 (fun _ _ _ => by simp) (fun _ _ _ => by simp)
  · refine fin (l.modify j fun e => { e with key := ev key, val := ev x }) clock (by simpa using h8) (by simpa using hbn.modify j (ev key) (ev x)) ?_
    rw [em]
    simp only [Instr.mapUpdate, Sem.run_bind, run_und ht, Result.andThen_ok, getObj_run (fun _ _ _ => by simp) ho1, checkKey_run (n := 9999) hdk hKD hkv, findKey_run hdk h5]
    have h6' : l[0 + j]? = some e := by rw [Nat.zero_add]; simpa using h6
    simp only [h6', Option.map_some, Option.getD_some, Instr.keyThatStays, sameBits_same hKD h7 hkv, if_true, Sem.run_pure, Result.andThen_ok]
    rw [Nat.zero_add]
    exact setObj_run ho1 (fun _ _ _ => by simp) (fun _ _ _ => by simp)
end Go.Ev
/-
  ENGINE, PART 20: ranges over strings.
-/
namespace Go.Ev
variable {P : Program}

def dec (at' : Nat → Nat) (cont : Nat → Bool) : Nat × Nat :=
  let b0 := at' 0
  if b0 < 0x80 then (b0, 1)
  else if b0 / 32 == 6 && cont 1 then
    let c := (b0 % 32) * 64 + at' 1 % 64
    if c ≥ 0x80 then (c, 2) else (Utf8.runeError, 1)
  else if b0 / 16 == 14 && cont 1 && cont 2 then
    let c := (b0 % 16) * 4096 + (at' 1 % 64) * 64 + at' 2 % 64
    if c ≥ 0x800 && Utf8.valid c then (c, 3) else (Utf8.runeError, 1)
  else if b0 / 8 == 30 && cont 1 && cont 2 && cont 3 then
    let c := (b0 % 8) * 262144 + (at' 1 % 64) * 4096 + (at' 2 % 64) * 64 + at' 3 % 64
    if c ≥ 0x10000 && Utf8.valid c then (c, 4) else (Utf8.runeError, 1)
  else (Utf8.runeError, 1)
theorem decode_dec (s : ByteArray) (i : Nat) : Utf8.decode s i = dec (fun k => (s.get! (i + k)).toNat) (fun k => decide (i + k < s.size) && (s.get! (i + k)).toNat / 64 == 2) := rfl
theorem decodeL_dec (s : List Nat) : decodeL s = dec (fun k => (nth s k).getD 0) (fun k => (nth s k).isSome && Nat.beq (Nat.div ((nth s k).getD 0) 64) 2) := rfl
theorem decode_eq {s : ByteArray} {i : Nat} {rest : List Nat} (h : (bytesOf s).drop i = rest) : Utf8.decode s i = decodeL rest := by
  rw [decode_dec, decodeL_dec]
  have hget : ∀ k, rest[k]? = (s[i + k]?).map UInt8.toNat := fun k => by rw [← h, List.getElem?_drop, bytes_get]
  have hat : ∀ k, (s.get! (i + k)).toNat = (nth rest k).getD 0 := fun k => by
    rw [nth_eq, hget]
    have e : s.get! (i + k) = (s[i + k]?).getD default := by
      obtain ⟨d⟩ := s
      show d[i + k]! = _
      by_cases hj : i + k < d.size
      · rw [getElem!_pos d (i + k) hj, getElem?_pos (ByteArray.mk d) (i + k) hj]; rfl
      · rw [getElem!_neg d (i + k) hj, getElem?_neg (ByteArray.mk d) (i + k) hj]; rfl
    rw [e]
    cases s[i + k]? <;> rfl
  have hsome : ∀ k, decide (i + k < s.size) = (nth rest k).isSome := fun k => by
    rw [nth_eq, hget]
    by_cases hk : i + k < s.size
    · simp [hk]
    · simp [hk]
  congr 1
  · funext k; exact hat k
  · funext k
    rw [hat, hsome]; congr 1
    rw [nbeq]; rfl
theorem decodeL_width {c : Nat} {l : List Nat} : (decodeL (c :: l)).2 ≤ (c :: l).length := by
  rw [decodeL_dec]
  unfold dec
  have hc : ∀ k, ((nth (c :: l) k).isSome && Nat.beq (Nat.div ((nth (c :: l) k).getD 0) 64) 2) = true → k < (c :: l).length := fun k hk => by
    simp only [Bool.and_eq_true] at hk
    rw [nth_eq] at hk
    simpa using hk.1
  have h1 : 1 ≤ (c :: l).length := by simp
  simp only []
  split
  · exact h1
  · split
    · rename_i h; have := hc 1 (by simp only [Bool.and_eq_true] at h; simp only [Bool.and_eq_true]; exact h.2)
      split
      · exact this
      · exact h1
    · split
      · rename_i h; have := hc 2 (by simp only [Bool.and_eq_true] at h; simp only [Bool.and_eq_true]; exact h.2)
        split
        · exact this
        · exact h1
      · split
        · rename_i h; have := hc 3 (by simp only [Bool.and_eq_true] at h; simp only [Bool.and_eq_true]; exact h.2)
          split
          · exact this
          · exact h1
        · exact h1
theorem oRange_ok {t : Nat} {x : Operand} {o : Oper} (ho : o.op = .range t x) {tm : T V} {h : H} {k : KO} (hok : h.ok) (hk : oRange P t x tm h k = true) : Active P o tm h k := by
  obtain ⟨a, ha, hk⟩ := opdK_true.1 hk
  obtain ⟨s, rfl, hk2⟩ := vStr_true.1 hk
  obtain ⟨ht, hk3⟩ := bg_true.1 hk2
  rw [H.newK_eq] at hk3
  have hu := und_isStr ht
  refine ⟨_, _, hk3, hok.new _, Ext.new _ _, fun ρ ev w hops hr => ?_⟩
  obtain ⟨b, hb, hbs⟩ := (hops x (by simp [ho, Op.operands]) _ ha).str_inv
  have hn := hr.none_next
  refine ⟨.value (.pointer (some ⟨w.heap.size, 0, none⟩)), _, w.app (.stringIter b 0), ρ.add h.next (w.heap.size, 0, (0, 0)), ?_, .inl rfl, ?_, ?_, VR.ptr 0 Ren.add_same, Nw.add (Nat.le_refl _)⟩
  · simp only [execOp, ho, Sem.run_bind, Instr.range, run_und hu, hb, Result.andThen_ok, Sem.run_pure, run_newObj]; rfl
  · exact Mv.alloc hn (Nat.le_succ _) (fun y hy => by rw [H.get_new, if_neg (fun e => hy (by rw [e]; exact hn))])
  · exact hr.alloc (o := .siter s 0) hn (Nat.lt_succ_self _) (Nat.le_succ _) (by rw [H.get_new, if_pos rfl]) (fun y hy => by rw [H.get_new, if_neg (fun e => hy (by rw [e]; exact hn))]) ⟨rfl, b, rfl, Nat.zero_le _, by simpa using hbs⟩
theorem oNext_ok {x : Operand} {sb : Bool} {o : Oper} (ho : o.op = .next x sb) {tm : T V} {h : H} {k : KO} (hok : h.ok) (hk : oNext x sb tm h k = true) : Active P o tm h k := by
  obtain ⟨rfl, hk⟩ := bg_true.1 hk
  obtain ⟨a, ha, hk⟩ := opdK_true.1 hk
  obtain ⟨b, off, rfl, hk2⟩ := vPtr_true.1 hk
  obtain ⟨h0, hk3⟩ := bg_true.1 hk2
  rw [nbeq, decide_eq_true_iff] at h0; subst h0
  obtain ⟨rest, pos, hg, hk4⟩ := iterK_true.1 hk3
  have common : ∀ (ρ : Ren) (ev : Operand → Value) (w : World), OpsR ρ tm ev o.op.operands.toList → HR P ρ h w → ∃ c wl s, ρ b = some (c, 0, wl) ∧ ev x = .pointer (some ⟨c, 0, none⟩) ∧ w.heap[c]? = some (.stringIter s pos) ∧ pos ≤ s.size ∧ (bytesOf s).drop pos = rest := by
    intro ρ ev w hops hr
    obtain ⟨c, s, wl, hb, e⟩ := (hops x (by simp [ho, Op.operands]) _ ha).ptr_inv
    obtain ⟨ob, h1, rfl, sb, rfl, h2, h3⟩ := hr.obj _ _ _ _ _ hb hg
    exact ⟨c, wl, sb, hb, e, h1, h2, h3⟩
  have bytesLen : ∀ s : ByteArray, (bytesOf s).drop pos = rest → rest.length = s.size - pos := fun s hs => by rw [← hs, List.length_drop, bytesOf_length]
  cases rest with
  | nil =>
    refine ⟨_, h, hk4, hok, Ext.refl _, fun ρ ev w hops hr => ?_⟩
    obtain ⟨c, wl, s, hb, e, h1, h2, h3⟩ := common ρ ev w hops hr
    have hp : ¬ pos < s.size := by have := bytesLen s h3; simp at this; omega
    refine ⟨.value (.tuple #[.bool false]), _, w, ρ, ?_, .inl rfl, Mv.refl _ _ _, hr, ?_, Nw.refl _ _⟩
    · simp only [execOp, ho, Sem.run_bind, Instr.next, e, getObj_run (fun _ _ _ => by simp) h1, Result.andThen_ok]
      rw [if_neg hp]; rfl
    · simp only [VR]; exact ⟨_, rfl, VRL.cons (VR.bool _) VRL.nil⟩
  | cons c0 l =>
    -- the letter and its width
    have step : ∀ r wd, decodeL (c0 :: l) = (r, wd) → k (.tuple [.bool true, .int .i64 (Int.ofNat pos), .int .i32 (Int.ofNat r)]) (h.put b (some (.siter ((c0 :: l).drop wd) (pos + wd)))) yes = true → Active P o tm h k := by
      intro r wd hd hk5
      refine ⟨_, _, hk5, hok.put (hok _ _ hg), Ext.put _ _ _, fun ρ ev w hops hr => ?_⟩
      obtain ⟨c, wl, s, hb, e, h1, h2, h3⟩ := common ρ ev w hops hr
      have hlen := bytesLen s h3
      have hp : pos < s.size := by simp at hlen; omega
      have hwd := decodeL_width (c := c0) (l := l)
      rw [hd] at hwd
      have hwd' : wd ≤ (c0 :: l).length := hwd
      refine ⟨.value (.tuple #[.bool true, goInt pos, .int .i32 r]), _, w.putB c (.stringIter s (pos + wd)), ρ, ?_, .inl rfl, Mv.store (ob' := .stringIter s (pos + wd)) hb hg rfl, hr.store hb hg rfl ⟨rfl, s, rfl, by omega, ?_⟩, ?_, Nw.refl _ _⟩
      · simp only [execOp, ho, Sem.run_bind, Instr.next, e, getObj_run (fun _ _ _ => by simp) h1, Result.andThen_ok]
        rw [if_pos hp]
        simp only [decode_eq h3, hd, Sem.run_bind, setObj_run h1 (fun _ _ _ => by simp) (o' := .stringIter s (pos + wd)) (fun _ _ _ => by simp), Result.andThen_ok]; rfl
      · rw [← h3, List.drop_drop]
      · simp only [VR]; exact ⟨_, rfl, VRL.cons (VR.bool _) (VRL.cons (VR.int _ _) (VRL.cons (VR.int _ _) VRL.nil))⟩
    have hk5 : bsel (Nat.blt c0 128)
      (h.putK b (some (.siter l (Nat.succ pos))) fun h' => k (.tuple [.bool true, .int .i64 (Int.ofNat pos), .int .i32 (Int.ofNat c0)]) h' yes)
      (Prod.rec (motive := fun _ => Bool) (fun r wd => h.putK b (some (.siter (dropN (c0 :: l) wd) (Nat.add pos wd))) fun h' => k (.tuple [.bool true, .int .i64 (Int.ofNat pos), .int .i32 (Int.ofNat r)]) h' yes) (decodeL (c0 :: l))) = true := hk4
    rw [bsel_eq, nblt] at hk5
    by_cases hc : c0 < 128
    · rw [if_pos (by simpa using hc), H.putK_eq] at hk5
      refine step c0 1 ?_ hk5
      rw [decodeL_dec]
      unfold dec
      exact if_pos hc
    · rw [if_neg (by simpa using hc)] at hk5
      cases hd : decodeL (c0 :: l) with
      | mk r wd =>
        rw [hd] at hk5
        replace hk5 : (h.putK b (some (.siter (dropN (c0 :: l) wd) (Nat.add pos wd))) fun h' => k (.tuple [.bool true, .int .i64 (Int.ofNat pos), .int .i32 (Int.ofNat r)]) h' yes) = true := hk5
        rw [H.putK_eq, dropN_eq] at hk5
        exact step r wd hd hk5
end Go.Ev
/-
  ENGINE, PART 21: what append does, step by step.
-/
namespace Go.Ev
variable {P : Program}

theorem growBy_le (m : Nat) : ∀ (r c : Nat), c < m → Builtin.growBy m r c ≤ 2 * m + 192
  | 0, c, h => by simp only [Builtin.growBy]; omega
  | r + 1, c, h => by
    simp only [Builtin.growBy]
    rw [if_neg (by omega)]
    by_cases h2 : c + (c + 768) / 4 < m
    · exact growBy_le m r _ h2
    · have : Builtin.growBy m r (c + (c + 768) / 4) = c + (c + 768) / 4 := by
        cases r with
        | zero => rfl
        | succ r => simp only [Builtin.growBy]; rw [if_pos (by omega)]
      rw [this]; omega
theorem nextcap_le {m c : Nat} (h : c < m) : Builtin.nextslicecap m c ≤ 2 * m + 192 := by
  unfold Builtin.nextslicecap
  split
  · omega
  · split
    · omega
    · exact growBy_le m 4 c h
theorem capOk_true {n b : Nat} {k : Bool} (h : capOk n b k = true) : k = true ∧ (2 * n + 192) * (b + 1) ≤ 281474976710656 := by
  obtain ⟨h1, h2⟩ := bg_true.1 h
  rw [nble, decide_eq_true_iff] at h1
  exact ⟨h2, h1⟩
theorem grow_ok {need sCap b : Nat} (hc : sCap < need) (h : (2 * need + 192) * (b + 1) ≤ 281474976710656) : ¬ Builtin.nextslicecap need sCap * b > 2 ^ 48 ∧ ¬ ((need : Nat) : Int) > IntKind.i64.max := by
  have h1 := nextcap_le hc
  have h2 : Builtin.nextslicecap need sCap * b ≤ (2 * need + 192) * (b + 1) := Nat.mul_le_mul h1 (Nat.le_succ _)
  have h3 : 2 * need + 192 ≤ (2 * need + 192) * (b + 1) := Nat.le_mul_of_pos_right _ (Nat.succ_pos _)
  refine ⟨by omega, ?_⟩
  have : IntKind.i64.max = 9223372036854775807 := by decide
  rw [this]; omega
section
variable {ts : Array TypeId} {ty t t2 e sz : Nat} {base : Option Addr} {sLen sCap n : Nat} {x : Value} {new : Array Value} {w w' : World}
theorem append_in (h0 : ts[0]? = some t) (h1 : ts[1]? = some t2) (hu : P.underlying t = some (.slice e)) (hsz : sizeT P e = some sz) {d2 : TypeDesc} (hu2 : P.underlying t2 = some d2) (hd : ∀ k, d2 ≠ .int k)
    (hlen : (Builtin.lenOf x).run P w = .ok n w) (hnew : (Builtin.firstCells sz n x).run P w = .ok new w) (hcap : sLen + n ≤ sCap)
    (hst : ∀ a, base = some a → (storeCells (a.add (sLen * sz)) new.toList).run P w = .ok () w') (hno : base = none → w' = w) :
    (Builtin.append_ ts ty #[.slice base sLen sCap, x]).run P w = .ok (.slice base (sLen + n) sCap) w' := by
  cases d2 with
  | int k => exact absurd rfl (hd k)
  | _ =>
    simp only [Builtin.append_, h0, h1, List.getElem?_toArray, List.getElem?_cons_zero, List.getElem?_cons_succ, Sem.run_bind, run_und hu, run_und hu2, Result.andThen_ok, run_sizeT hsz, Sem.run_pure, Bool.false_eq_true, if_false, hlen, Bool.not_false, if_true, hnew]
    rw [if_pos hcap]
    cases base with
    | none => simp only [Sem.run_bind, hnew, Result.andThen_ok, Sem.run_pure]; rw [hno rfl]
    | some a => simp only [Sem.run_bind, hnew, Result.andThen_ok, hst a rfl, Sem.run_pure]
theorem append_grow {ti : TypeInfo} {zv : Value} {old : Array Value} (h0 : ts[0]? = some t) (h1 : ts[1]? = some t2) (hu : P.underlying t = some (.slice e)) (hsz : sizeT P e = some sz) {d2 : TypeDesc} (hu2 : P.underlying t2 = some d2) (hd : ∀ k, d2 ≠ .int k)
    (hti : ∀ w, (typeInfo e).run P w = .ok ti w) (hz : ∀ w, (zeroValue e).run P w = .ok zv w) (hlen : (Builtin.lenOf x).run P w = .ok n w) (hcap : ¬ sLen + n ≤ sCap) (hok : (2 * (sLen + n) + 192) * (ti.bytes + 1) ≤ 281474976710656)
    (hold : ∀ d, (Builtin.firstCells sz sLen (.slice base sLen sCap)).run P { w with drawn := d } = .ok old { w with drawn := d }) (hnew : ∀ d, (Builtin.firstCells sz n x).run P { w with drawn := d } = .ok new { w with drawn := d }) :
    ∃ cap, sLen + n ≤ cap ∧ (Builtin.append_ ts ty #[.slice base sLen sCap, x]).run P w =
      .ok (.slice (some ⟨w.heap.size, 0, none⟩) (sLen + n) cap) { w with drawn := w.drawn + 1, heap := w.heap.push (.cells (old ++ new ++ Builtin.zeroCells zv.cells (cap - (sLen + n))) e) } := by
  obtain ⟨cap, hc, hch⟩ := choose_cap (P := P) (sLen + n) sCap e w
  obtain ⟨g1, g2⟩ := grow_ok (need := sLen + n) (sCap := sCap) (by omega) hok
  refine ⟨cap, hc, ?_⟩
  cases d2 with
  | int k => exact absurd rfl (hd k)
  | _ =>
    simp only [Builtin.append_, h0, h1, List.getElem?_toArray, List.getElem?_cons_zero, List.getElem?_cons_succ, Sem.run_bind, run_und hu, run_und hu2, Result.andThen_ok, run_sizeT hsz, Sem.run_pure, Bool.false_eq_true, if_false, hlen, Bool.not_false, if_true]
    rw [if_neg hcap]
    simp only [Sem.run_bind, hti, Result.andThen_ok]
    rw [if_neg (fun h => g2 h.1)]
    simp only [Sem.run_bind, hti, Result.andThen_ok]
    rw [if_neg g1]
    simp only [Sem.run_bind, hti, hch, Result.andThen_ok, run_askRoom, hold, hnew, hz, newRow, run_newObj, Sem.run_pure]
theorem appendZ_in {k' j : IntKind} {ti : TypeInfo} {zv : Value} (h0 : ts[0]? = some t) (h1 : ts[1]? = some t2) (hu : P.underlying t = some (.slice e)) (hsz : sizeT P e = some sz) (hu2 : P.underlying t2 = some (.int k'))
    (hti : ∀ w, (typeInfo e).run P w = .ok ti w) (hz : ∀ w, (zeroValue e).run P w = .ok zv w) (hn : n * (ti.bytes + 1) ≤ 281474976710656) (hcap : sLen + n ≤ sCap)
    (hnew : new = if n * sz = 0 then #[] else Builtin.zeroCells zv.cells n)
    (hst : ∀ a, base = some a → (storeCells (a.add (sLen * sz)) new.toList).run P w = .ok () w') (hno : base = none → w' = w) :
    (Builtin.append_ ts ty #[.slice base sLen sCap, .int j (Int.ofNat n)]).run P w = .ok (.slice base (sLen + n) sCap) w' := by
  have hn1 : n ≤ 281474976710656 := Nat.le_trans (Nat.le_mul_of_pos_right _ (Nat.succ_pos _)) hn
  have hn2 : n * ti.bytes ≤ 281474976710656 := Nat.le_trans (Nat.mul_le_mul_left _ (Nat.le_succ _)) hn
  have c1 : ¬ (Int.ofNat n < 0) := by simp
  have c2 : ¬ (Int.ofNat n * (ti.bytes : Int) > 2 ^ 48) := by
    have : Int.ofNat n * (ti.bytes : Int) = ((n * ti.bytes : Nat) : Int) := by simp
    rw [this]; omega
  have c3 : (Int.ofNat n).toNat = n := rfl
  simp only [Builtin.append_, h0, h1, List.getElem?_toArray, List.getElem?_cons_zero, List.getElem?_cons_succ, Sem.run_bind, run_und hu, run_und hu2, Result.andThen_ok, run_sizeT hsz, Sem.run_pure, if_true, asInt, asIntOf, wrap64 (n := n) (by omega)]
  rw [if_neg c1]
  simp only [Sem.run_bind, hti, Result.andThen_ok]
  rw [if_neg c2]
  simp only [Sem.run_bind, Sem.run_pure, Result.andThen_ok, c3]
  rw [if_pos hcap]
  by_cases hz0 : n * sz = 0
  · rw [if_pos hz0] at hnew; subst hnew
    cases base with
    | none => simp only [Bool.not_true, Bool.false_eq_true, if_false, hz0, if_true, Sem.run_bind, Result.andThen_ok, Sem.run_pure]; rw [hno rfl]
    | some a => simp only [Bool.not_true, Bool.false_eq_true, if_false, hz0, if_true, Sem.run_bind, Result.andThen_ok, Sem.run_pure, hst a rfl]
  · rw [if_neg hz0] at hnew; subst hnew
    cases base with
    | none => simp only [Bool.not_true, Bool.false_eq_true, if_false, hz0, Sem.run_bind, hz, Result.andThen_ok, Sem.run_pure]; rw [hno rfl]
    | some a => simp only [Bool.not_true, Bool.false_eq_true, if_false, hz0, Sem.run_bind, hz, Result.andThen_ok, Sem.run_pure, hst a rfl]
theorem appendZ_grow {k' j : IntKind} {ti : TypeInfo} {zv : Value} {old : Array Value} (h0 : ts[0]? = some t) (h1 : ts[1]? = some t2) (hu : P.underlying t = some (.slice e)) (hsz : sizeT P e = some sz) (hu2 : P.underlying t2 = some (.int k'))
    (hti : ∀ w, (typeInfo e).run P w = .ok ti w) (hz : ∀ w, (zeroValue e).run P w = .ok zv w) (hn : n * (ti.bytes + 1) ≤ 281474976710656) (hcap : ¬ sLen + n ≤ sCap) (hok : (2 * (sLen + n) + 192) * (ti.bytes + 1) ≤ 281474976710656)
    (hnew : new = if n * sz = 0 then #[] else Builtin.zeroCells zv.cells n)
    (hold : ∀ d, (Builtin.firstCells sz sLen (.slice base sLen sCap)).run P { w with drawn := d } = .ok old { w with drawn := d }) :
    ∃ cap, sLen + n ≤ cap ∧ (Builtin.append_ ts ty #[.slice base sLen sCap, .int j (Int.ofNat n)]).run P w =
      .ok (.slice (some ⟨w.heap.size, 0, none⟩) (sLen + n) cap) { w with drawn := w.drawn + 1, heap := w.heap.push (.cells (old ++ new ++ Builtin.zeroCells zv.cells (cap - (sLen + n))) e) } := by
  obtain ⟨cap, hc, hch⟩ := choose_cap (P := P) (sLen + n) sCap e w
  obtain ⟨g1, g2⟩ := grow_ok (need := sLen + n) (sCap := sCap) (by omega) hok
  refine ⟨cap, hc, ?_⟩
  have hn1 : n ≤ 281474976710656 := Nat.le_trans (Nat.le_mul_of_pos_right _ (Nat.succ_pos _)) hn
  have hn2 : n * ti.bytes ≤ 281474976710656 := Nat.le_trans (Nat.mul_le_mul_left _ (Nat.le_succ _)) hn
  have c1 : ¬ (Int.ofNat n < 0) := by simp
  have c2 : ¬ (Int.ofNat n * (ti.bytes : Int) > 2 ^ 48) := by
    have : Int.ofNat n * (ti.bytes : Int) = ((n * ti.bytes : Nat) : Int) := by simp
    rw [this]; omega
  have c3 : (Int.ofNat n).toNat = n := rfl
  simp only [Builtin.append_, h0, h1, List.getElem?_toArray, List.getElem?_cons_zero, List.getElem?_cons_succ, Sem.run_bind, run_und hu, run_und hu2, Result.andThen_ok, run_sizeT hsz, Sem.run_pure, if_true, asInt, asIntOf, wrap64 (n := n) (by omega)]
  rw [if_neg c1]
  simp only [Sem.run_bind, hti, Result.andThen_ok]
  rw [if_neg c2]
  simp only [Sem.run_bind, Sem.run_pure, Result.andThen_ok, c3]
  rw [if_neg hcap]
  simp only [Sem.run_bind, hti, Result.andThen_ok]
  rw [if_neg (fun h => g2 h.1)]
  simp only [Sem.run_bind, hti, Result.andThen_ok]
  rw [if_neg g1]
  simp only [Sem.run_bind, hti, hch, Result.andThen_ok, run_askRoom, hold]
  by_cases hz0 : n * sz = 0
  · rw [if_pos hz0] at hnew; subst hnew
    simp only [Bool.not_true, Bool.false_eq_true, if_false, hz0, if_true, Sem.run_bind, Result.andThen_ok, Sem.run_pure, hz, newRow, run_newObj]
  · rw [if_neg hz0] at hnew; subst hnew
    simp only [Bool.not_true, Bool.false_eq_true, if_false, hz0, Sem.run_bind, hz, Result.andThen_ok, Sem.run_pure, newRow, run_newObj]
end
end Go.Ev
/-
  ENGINE, PART 22: append, on either side.
-/
namespace Go.Ev
variable {P : Program}

/-- what a run of append does with a slice -/
def AppRun (P : Program) (e sz b n : Nat) (newA : Array Value) (op : Value → Sem Value) (w : World) : Prop :=
  (∀ base sLen sCap w', sLen + n ≤ sCap → (∀ a : Addr, base = some a → (storeCells (a.add (sLen * sz)) newA.toList).run P w = .ok () w') → (base = none → w' = w) → (op (.slice base sLen sCap)).run P w = .ok (.slice base (sLen + n) sCap) w') ∧
  (∀ base sLen sCap old, ¬ sLen + n ≤ sCap → (2 * (sLen + n) + 192) * (b + 1) ≤ 281474976710656 → (∀ d, (Builtin.firstCells sz sLen (.slice base sLen sCap)).run P { w with drawn := d } = .ok old { w with drawn := d }) →
    ∃ cap tail, sLen + n ≤ cap ∧ Array.size tail = (cap - (sLen + n)) * sz ∧ (op (.slice base sLen sCap)).run P w = .ok (.slice (some ⟨w.heap.size, 0, none⟩) (sLen + n) cap) { w with drawn := w.drawn + 1, heap := w.heap.push (.cells (old ++ newA ++ tail) e) })
/-- the outcome of an append on either side -/
def AppOk (P : Program) (e sz b n : Nat) (s : V) (new : List V) (h : H) (v : V) (h' : H) : Prop :=
  ∀ (ρ : Ren) (w : World) (y : Value) (newA : Array Value) (op : Value → Sem Value), HR P ρ h w → VR ρ s y → VRL ρ new newA.toList → AppRun P e sz b n newA op w →
    ∃ x w' ρ', (op y).run P w = .ok x w' ∧ Mv ρ h w ρ' h' w' ∧ HR P ρ' h' w' ∧ VR ρ' v x ∧ Nw ρ ρ' fun b => h.next ≤ b
theorem ld_any {w : World} {c o m : Nat} {arr : Array Value} {e : TypeId} {fr : Nat × Nat} (hh : w.heap[c]? = some (.cells arr e fr)) (hm : o + m ≤ arr.size) :
    ∃ old : Array Value, old.size = m ∧ (∀ j, j < m → old[j]? = arr[o + j]?) ∧ ∀ d, (loadCells ⟨c, o, none⟩ m).run P { w with drawn := d } = .ok old { w with drawn := d } := by
  refine ⟨((arr.toList.drop o).take m).toArray, by simp; omega, fun j hj => by simp [List.getElem?_take, List.getElem?_drop, hj], fun d => ?_⟩
  have := run_loadCells_at (P := P) (w := { w with drawn := d }) (c := c) (o := o) (arr := arr) (e := e) (fr := fr) hh ((arr.toList.drop o).take m) (fun j x hx => by
    rw [List.getElem?_take] at hx
    split at hx
    · rw [List.getElem?_drop] at hx; simpa using hx
    · cases hx)
  have hl : ((arr.toList.drop o).take m).length = m := by simp; omega
  rw [hl] at this
  exact this
/-- a row of old cells and new ones, that the tape has given more -/
theorem RowR.grown {ρ ρ' : Ren} (hle : ρ.le ρ') {rn wi fz s o m q : Nat} {cs cs0 : T V} {ro : Bool} {arr arr' : Array Value} {fr fr' : Nat × Nat} (hr : RowR ρ rn cs wi ro fz s arr fr) {new : List V} {newA : List Value} (hnew : VRL ρ new newA)
    (ho : o + m ≤ rn) (h0 : ∀ i v, i < m → cs0.get i = some v → cs.get (o + i) = some v) {s' fz' : Nat} (hfit : s' + (m + new.length) ≤ arr'.size)
    (hold : ∀ i, i < m → arr'[s' + i]? = arr[s + o + i]?) (hnw : ∀ i x, newA[i]? = some x → arr'[s' + m + i]? = some x) (hfr : fr'.2 ≤ s' + (fz' - 1) ∨ (fz' = 0 ∧ arr'.size ≤ fr'.1)) :
    RowR ρ' (m + new.length) (T.ofList new m cs0) (q + 1) false fz' s' arr' fr' := by
  refine ⟨hfit, fun h => (by cases h), fun i v hi hv => ?_, fun _ => hfr⟩
  rw [T.get_ofList] at hv
  split at hv
  · rename_i hb
    obtain ⟨x, hx, hvx⟩ := hnew.get hv
    have := hnw _ _ hx
    exact ⟨x, by rw [← this]; congr 1; omega, hvx.mono hle⟩
  · rename_i hb
    have hi' : i < m := by omega
    obtain ⟨x, hx, hvx⟩ := hr.cell _ _ (by omega) (h0 i v hi' hv)
    exact ⟨x, by rw [hold i hi', ← hx]; congr 1; omega, hvx.mono hle⟩
theorem inRow_true {b o l n c e sz by_ : Nat} {new : List V} {h : H} {k : V → H → Bool} (hok : h.ok) (hlen : new.length = n * sz) (hc : l + n ≤ c) (hk : inRow b o l n c sz new h k = true) :
    ∃ v h', k v h' = true ∧ h'.ok ∧ Ext h h' ∧ AppOk P e sz by_ n (.slice b o l c) new h v h' := by
  cases n with
  | zero =>
    refine ⟨_, h, hk, hok, Ext.refl _, fun ρ w y newA op hr hy hnew hop => ?_⟩
    obtain ⟨cc, s, wl, a, cp', hb, rfl, h1, h2, h3, h4, h5⟩ := hy.slice_inv
    have hnil : newA.toList = [] := by
      have := hnew.length; rw [hlen, Nat.zero_mul] at this; exact List.length_eq_zero_iff.1 this
    refine ⟨_, w, ρ, hop.1 (some a) l cp' w (by omega) (fun a' _ => by rw [hnil]; rfl) (fun h => by cases h), Mv.refl _ _ _, hr, ?_, Nw.refl _ _⟩
    simp only [VR]; exact ⟨cc, s, wl, a, cp', hb, rfl, h1, h2, h3, h4, h5⟩
  | succ n =>
    obtain ⟨h', h1, h2, h3, h4⟩ := storeRow_true (P := P) hok (show storeRow b (Nat.add o (Nat.mul l sz)) new h (k (.slice b o (Nat.add l (n + 1)) c)) = true from hk)
    refine ⟨_, h', h1, h2, h3, fun ρ w y newA op hr hy hnew hop => ?_⟩
    obtain ⟨cc, s, wl, a, cp', hb, rfl, g1, g2, g3, g4, g5⟩ := hy.slice_inv
    have ha : a = ⟨cc, s + o, none⟩ := g5.resolve_left (by omega)
    subst ha
    obtain ⟨w', e1, e2, e3⟩ := h4 ρ w newA.toList cc s wl hr hb hnew
    refine ⟨_, w', ρ, hop.1 _ l cp' w' (by omega) (fun a' ha' => ?_) (fun h => by cases h), e2, e3, ?_, Nw.refl _ _⟩
    · cases ha'
      rw [addr_add, show s + o + l * sz = s + (o + l * sz) from by omega]; exact e1
    · simp only [VR]; exact ⟨cc, s, wl, _, cp', hb, rfl, hc, g2, g3, g4, g5⟩
theorem VR.grownSlice {ρ : Ren} {b c s o l n cap z m : Nat} (hρ : ρ b = some (c, s, (z + 1, m))) (hl : l ≤ n) (hn : n ≤ cap) (hm : s + o + cap * z ≤ m) : VR ρ (.slice b o l n) (.slice (some ⟨c, s + o, none⟩) l cap) := by
  simp only [VR]
  exact ⟨c, s, (z + 1, m), _, cap, hρ, rfl, hl, hn, fun h => (by cases h), fun z' h => (by cases h; exact hm), .inr rfl⟩
/-- the new row, where the model makes one -/
theorem AppOk.fresh {e sz by_ n l : Nat} {h h1 : H} {ρ : Ren} {w : World} {newA : Array Value} {op : Value → Sem Value} {base : Option Addr} {cp' fz' : Nat} {cs' : T V} {old : Array Value}
    (hr : HR P ρ h w) (hr1 : HR P ρ h1 w) (hm1 : Mv ρ h w ρ h1 w) (hn1 : h1.next = h.next) (hop : AppRun P e sz by_ n newA op w) (hcap : ¬ l + n ≤ cp') (hby : (2 * (l + n) + 192) * (by_ + 1) ≤ 281474976710656)
    (hold : ∀ d, (Builtin.firstCells sz l (.slice base l cp')).run P { w with drawn := d } = .ok old { w with drawn := d }) (hos : old.size = l * sz) (hns : newA.size = n * sz)
    (hrow : ∀ tail : Array Value, RowR (ρ.add h.next (w.heap.size, 0, (sz + 1, (old ++ newA ++ tail).size))) ((l + n) * sz) cs' (sz + 1) false fz' 0 (old ++ newA ++ tail) (0, 0)) :
    ∃ x w' ρ', (op (.slice base l cp')).run P w = .ok x w' ∧ Mv ρ h w ρ' (h1.new (.row ((l + n) * sz) cs' e (sz + 1) false fz')) w' ∧ HR P ρ' (h1.new (.row ((l + n) * sz) cs' e (sz + 1) false fz')) w' ∧ VR ρ' (.slice h.next 0 (l + n) (l + n)) x ∧ Nw ρ ρ' fun b => h.next ≤ b := by
  obtain ⟨cap, tail, h1', h2, h3⟩ := hop.2 base l cp' old hcap hby hold
  have hnone := hr.none_next
  have hsz : (old ++ newA ++ tail).size = cap * sz := by
    simp only [Array.size_append, hos, hns, h2]
    rw [← Nat.add_mul, ← Nat.add_mul]; congr 1; omega
  have hold' : ∀ y, ρ y ≠ none → (h1.new (.row ((l + n) * sz) cs' e (sz + 1) false fz')).get y = h1.get y := fun y hy => by rw [H.get_new, if_neg (fun e => hy (by rw [e, hn1]; exact hnone))]
  refine ⟨_, _, ρ.add h.next (w.heap.size, 0, (sz + 1, (old ++ newA ++ tail).size)), h3, ?_, ?_, ?_, Nw.add (Nat.le_refl _)⟩
  · have := Mv.alloc (w := w) (ob := .cells (old ++ newA ++ tail) e) (wl := (sz + 1, (old ++ newA ++ tail).size)) (h := h1) (h' := h1.new (.row ((l + n) * sz) cs' e (sz + 1) false fz')) hnone (Nat.le_succ _) hold'
    exact (hm1.trans this).congr rfl ⟨rfl, rfl, rfl⟩
  · have := hr1.alloc (wl := (sz + 1, (old ++ newA ++ tail).size)) (ob := .cells (old ++ newA ++ tail) e) (h' := h1.new (.row ((l + n) * sz) cs' e (sz + 1) false fz')) (o := .row ((l + n) * sz) cs' e (sz + 1) false fz') hnone (by rw [← hn1]; exact Nat.lt_succ_self _) (Nat.le_succ _) (by rw [H.get_new, if_pos hn1.symm]) hold' ⟨rfl, _, _, rfl, hrow tail, fun _ => rfl⟩
    exact this.congr rfl
  · have := VR.grownSlice (o := 0) (l := l + n) (n := l + n) (cap := cap) (ρ := ρ.add h.next (w.heap.size, 0, (sz + 1, (old ++ newA ++ tail).size))) Ren.add_same (Nat.le_refl _) h1' (by rw [hsz]; omega)
    exact this
theorem arr_parts {old newA tail : Array Value} {m : Nat} (hos : old.size = m) : (∀ i, i < m → (old ++ newA ++ tail)[0 + i]? = old[i]?) ∧ ∀ i x, newA.toList[i]? = some x → (old ++ newA ++ tail)[0 + m + i]? = some x := by
  subst hos
  refine ⟨fun i hi => ?_, fun i x hx => ?_⟩
  · rw [Nat.zero_add, Array.append_assoc, Array.getElem?_append_left hi]
  · have hx' : newA[i]? = some x := by simpa using hx
    have hi : i < newA.size := (Array.getElem?_eq_some_iff.1 hx').1
    rw [Nat.zero_add, Array.append_assoc, Array.getElem?_append_right (by omega), Array.getElem?_append_left (by omega), show old.size + i - old.size = i from by omega]; exact hx'
theorem firstCells_slice (sz l cp : Nat) (a : Addr) : Builtin.firstCells sz l (.slice (some a) l cp) = loadCells a (l * sz) := rfl
theorem growK_true {cs : T V} {b o l c n sz e e0 by_ fz rn wi : Nat} {ro : Bool} {wild : Bool} {new : List V} {h : H} {k : V → H → Bool} (hok : h.ok) (hlen : new.length = n * sz) (hby : (2 * (l + n) + 192) * (by_ + 1) ≤ 281474976710656)
    (hg : h.get b = some (.row rn cs e0 wi ro fz)) (hrn : o + l * sz ≤ rn) (hc : ¬ l + n ≤ c) (hw : if wild = true then wi = sz + 1 ∧ ro = false ∧ fz ≤ o + l * sz + 1 ∧ e0 = e else wi = 0)
    {fz1 : Nat} (hfz : if wild = true then fz1 = fz else fz1 = 1) (hk : growK cs b o l n sz e fz1 wild new h k = true) :
    ∃ v h', k v h' = true ∧ h'.ok ∧ Ext h h' ∧ AppOk P e sz by_ n (.slice b o l c) new h v h' := by
  -- the cells that are kept
  have fin : ∀ (h1 : H) (cs0 : T V) (fz2 : Nat), h1.ok → Ext h h1 → h1.next = h.next → (∀ i v, i < l * sz → cs0.get i = some v → cs.get (o + i) = some v) →
      (∀ ρ w, HR P ρ h w → HR P ρ h1 w ∧ Mv ρ h w ρ h1 w) → (wild = true → h1 = h.put b none ∧ ∀ s arr fr, RowR (fun _ => none) 0 .L wi false fz s arr fr → True) →
      (wild = true → (o = 0 ∧ fz2 = fz) ∨ (fz ≤ 1 ∧ fz2 = fz)) →
      (stK new cs0 (Nat.mul l sz) fun cs' => h1.newK (.row (Nat.mul (Nat.add l n) sz) cs' e (Nat.succ sz) false fz2) fun b' h' => k (.slice b' 0 (Nat.add l n) (Nat.add l n)) h') = true →
      ∃ v h', k v h' = true ∧ h'.ok ∧ Ext h h' ∧ AppOk P e sz by_ n (.slice b o l c) new h v h' := by
    intro h1 cs0 fz2 hok1 hext hnx hcs0 hH hwl hfz2 hk
    obtain ⟨hone, hk2⟩ := stK_true.1 hk
    rw [H.newK_eq] at hk2
    refine ⟨_, _, hk2, hok1.new _, hext.trans (Ext.new _ _), fun ρ w y newA op hr hy hnew hop => ?_⟩
    obtain ⟨cc, s, wl, a, cp', hb, rfl, g1, g2, g3, g4, g5⟩ := hy.slice_inv
    obtain ⟨hwi, arr, fr, hh, hrow, hsize⟩ := hr.row hb hg
    have hns : newA.size = n * sz := by rw [← hlen, ← hnew.length]; simp
    have hnone := hr.none_next
    have hfits := hrow.fits
    have hmn : (l + n) * sz = l * sz + new.length := by rw [hlen, Nat.add_mul]
    show ∃ x w' ρ', _ ∧ Mv ρ h w ρ' (h1.new (.row ((l + n) * sz) (T.ofList new (l * sz) cs0) e (sz + 1) false fz2)) w' ∧ HR P ρ' (h1.new (.row ((l + n) * sz) (T.ofList new (l * sz) cs0) e (sz + 1) false fz2)) w' ∧ VR ρ' (.slice h1.next 0 (l + n) (l + n)) x ∧ _
    rw [hnx]
    by_cases hin : l + n ≤ cp'
    · -- in place
      cases wild with
      | false =>
        simp only [Bool.false_eq_true, if_false] at hw
        exact absurd hin (by rw [g3 (by rw [← hwi]; exact hw)]; exact hc)
      | true =>
        simp only [if_true] at hw
        obtain ⟨rfl, rfl, hfo, rfl⟩ := hw
        obtain ⟨rfl, -⟩ := hwl rfl
        have ha : a = ⟨cc, s + o, none⟩ := g5.resolve_left (by omega)
        subst ha
        have hw1 : wl.1 = sz + 1 := hwi.symm
        have hsz : arr.size = wl.2 := hsize (by omega)
        have hcap := g4 sz hw1
        have hmul : (l + n) * sz ≤ cp' * sz := Nat.mul_le_mul_right _ hin
        have hroom := hrow.room rfl hfo
        have hst := run_storeCells_row (P := P) (c := cc) (o := s + o + l * sz) (e := e0) (fr := fr) newA.toList 0 arr w hh (by simp [hns]; rw [Nat.add_mul] at hmul; omega) (by rcases hroom with h' | h'; exact .inl (by omega); exact .inr h') (hnew.ones hone)
        rw [Nat.add_zero] at hst
        let arr' := setArr arr (s + o + l * sz) newA.toList
        have hsz' : arr'.size = arr.size := size_setArr _ _ _
        have hgetS := fun j => get_setArr newA.toList arr (s + o + l * sz) j (by simp [hns]; rw [Nat.add_mul] at hmul; omega)
        have hrow' : RowR (ρ.add h.next (cc, s + o, wl)) ((l + n) * sz) (T.ofList new (l * sz) cs0) (sz + 1) false fz2 (s + o) arr' fr := by
          rw [hmn]
          refine hrow.grown (Ren.add_le _ hnone) hnew hrn hcs0 (by rw [hsz', ← hmn]; omega) (fun i hi => ?_) (fun i x hx => ?_) ?_
          · rw [hgetS, if_neg (by omega)]
          · have hi : i < newA.toList.length := (List.getElem?_eq_some_iff.1 hx).1
            rw [hgetS, if_pos ⟨by omega, by omega⟩, show s + o + l * sz + i - (s + o + l * sz) = i from by omega]; exact hx
          · rcases hrow.free rfl with h' | ⟨h', h''⟩
            · rcases hfz2 rfl with ⟨rfl, rfl⟩ | ⟨h2, rfl⟩
              · exact .inl (by omega)
              · exact .inl (by omega)
            · rcases hfz2 rfl with ⟨rfl, rfl⟩ | ⟨h2, rfl⟩ <;> exact .inr ⟨h', by rw [hsz']; exact h''⟩
        refine ⟨_, w.putB cc (.cells arr' e0 fr), ρ.add h.next (cc, s + o, wl), hop.1 (some ⟨cc, s + o, none⟩) l cp' _ hin (fun a' ha' => ?_) (fun h => by cases h), Mv.take hnone hb hg rfl, hr.take hb hg rfl ⟨hwi, arr', fr, rfl, hrow', fun _ => by rw [hsz', hsz]⟩, ?_, Nw.add (Nat.le_refl _)⟩
        · cases ha'; rw [addr_add]; exact hst
        · obtain ⟨wl1, wl2⟩ := wl
          simp only at hw1; subst hw1
          exact VR.grownSlice (o := 0) Ren.add_same (Nat.le_refl _) hin (by simpa using hcap)
    · -- a new row
      obtain ⟨hr1, hm1⟩ := hH ρ w hr
      have hold : ∃ old : Array Value, old.size = l * sz ∧ (∀ j, j < l * sz → old[j]? = arr[s + o + j]?) ∧ ∀ d, (Builtin.firstCells sz l (.slice (some a) l cp')).run P { w with drawn := d } = .ok old { w with drawn := d } := by
        rcases g5 with g5 | rfl
        · have hl0 : l = 0 := by omega
          subst hl0
          exact ⟨#[], by simp, fun j hj => by omega, fun d => by rw [firstCells_slice, Nat.zero_mul]; rfl⟩
        · exact ld_any hh (by omega)
      obtain ⟨old, hos, hog, hor⟩ := hold
      refine AppOk.fresh hr hr1 hm1 hnx hop hin hby hor hos hns fun tail => ?_
      obtain ⟨hp1, hp2⟩ := arr_parts (newA := newA) (tail := tail) hos
      rw [hmn]
      refine hrow.grown (Ren.add_le _ hnone) hnew hrn hcs0 ?_ (fun i hi => by rw [hp1 i hi, hog i hi]) hp2 (.inl (by simp))
      simp only [Array.size_append, hos, hns, hlen]; omega
  unfold growK at hk
  rw [bsel_eq] at hk
  cases wild with
  | true =>
    simp only [if_true, H.putK_eq] at hk hfz
    subst hfz
    have hH : ∀ ρ w, HR P ρ h w → HR P ρ (h.put b none) w ∧ Mv ρ h w ρ (h.put b none) w := fun ρ w hr => ⟨hr.kill b, Mv.kill _ _ _ _⟩
    cases o with
    | zero => exact fin (h.put b none) cs fz1 (hok.put (hok _ _ hg)) (Ext.put _ _ _) rfl (fun i v _ hv => by rw [Nat.zero_add]; exact hv) hH (fun _ => ⟨rfl, fun _ _ _ _ => trivial⟩) (fun _ => .inl ⟨rfl, rfl⟩) hk
    | succ o =>
      obtain ⟨hf, hk2⟩ := bg_true.1 hk
      rw [nble, decide_eq_true_iff] at hf
      obtain ⟨l0, ⟨hl0, hl1⟩, hk3⟩ := ldK_true.1 hk2
      rw [listK_eq] at hk3
      exact fin (h.put b none) _ fz1 (hok.put (hok _ _ hg)) (Ext.put _ _ _) rfl (fun i v hi hv => hl1 i v (get_made i v (by rw [hl0]; exact hi) hv)) hH (fun _ => ⟨rfl, fun _ _ _ _ => trivial⟩) (fun _ => .inr ⟨hf, rfl⟩) hk3
  | false =>
    simp only [Bool.false_eq_true, if_false] at hk hfz
    subst hfz
    obtain ⟨l0, ⟨hl0, hl1⟩, hk3⟩ := ldK_true.1 hk
    rw [listK_eq] at hk3
    exact fin h _ 1 hok (Ext.refl _) rfl (fun i v hi hv => hl1 i v (get_made i v (by rw [hl0]; exact hi) hv)) (fun ρ w hr => ⟨hr, Mv.refl _ _ _⟩) (fun h => by cases h) (fun h => by cases h) hk3
end Go.Ev
/-
  ENGINE, PART 23: append, copy, clear, delete, unsafe.String.
-/
namespace Go.Ev
variable {P : Program}

theorem appendK_true {e sz by_ n : Nat} {s : V} {new : List V} {h : H} {k : V → H → Bool} (hok : h.ok) (hlen : new.length = n * sz) (hk : appendK e sz by_ s n new h k = true) :
    ∃ v h', k v h' = true ∧ h'.ok ∧ Ext h h' ∧ AppOk P e sz by_ n s new h v h' := by
  rcases onSl_true.1 hk with ⟨rfl, hk1⟩ | ⟨b, o, l, c, rfl, hk1⟩ <;> replace hk := hk1
  · cases n with
    | zero =>
      refine ⟨_, h, hk, hok, Ext.refl _, fun ρ w y newA op hr hy hnew hop => ?_⟩
      rw [hy.nils_inv]
      refine ⟨_, w, ρ, hop.1 none 0 0 w (Nat.le_refl _) (fun a h => by cases h) (fun _ => rfl), Mv.refl _ _ _, hr, by simp only [VR], Nw.refl _ _⟩
    | succ n =>
      obtain ⟨hk2, hby⟩ := capOk_true hk
      rw [listK_eq, H.newK_eq] at hk2
      refine ⟨_, _, hk2, hok.new _, Ext.new _ _, fun ρ w y newA op hr hy hnew hop => ?_⟩
      rw [hy.nils_inv]
      have hns : newA.size = (n + 1) * sz := by rw [← hlen, ← hnew.length]; simp
      have hby' : (2 * (0 + (n + 1)) + 192) * (by_ + 1) ≤ 281474976710656 := by rw [Nat.zero_add]; exact hby
      have := AppOk.fresh (P := P) (l := 0) (cp' := 0) (base := none) (old := #[]) (fz' := 1) (cs' := T.ofList new 0 .L) hr hr (Mv.refl _ _ _) rfl hop (by omega) hby' (fun d => rfl) (by simp) hns (fun tail => by
        rw [Nat.zero_add, ← hlen]
        refine ⟨by simp only [Array.size_append, hns, hlen]; simp, fun h => (by cases h), fun i v hi hv => ?_, fun _ => .inl (by simp)⟩
        obtain ⟨x, hx, hvx⟩ := hnew.get (get_made i v hi hv)
        obtain ⟨_, hp2⟩ := arr_parts (old := #[]) (newA := newA) (tail := tail) (m := 0) rfl
        exact ⟨x, by have := hp2 i x hx; simpa using this, hvx.mono (Ren.add_le _ hr.none_next)⟩)
      rw [Nat.zero_add] at this
      exact this
  · rw [bsel_eq, nble] at hk
    by_cases hc : l + n ≤ c
    · rw [if_pos (by simpa using hc)] at hk
      exact inRow_true hok hlen hc hk
    · rw [if_neg (by simpa using hc)] at hk
      obtain ⟨hk2, hby⟩ := capOk_true hk
      obtain ⟨rn, cs, e0, wi, ro, fz, hg, hk3⟩ := rowK_true.1 hk2
      cases wi with
      | zero =>
        obtain ⟨h1, h2⟩ := bg_true.1 hk3
        rw [nble, decide_eq_true_iff] at h1
        exact growK_true (wild := false) hok hlen hby hg h1 hc rfl rfl h2
      | succ z =>
        have hk4 : bsel ro false (bg (Nat.beq e0 e) (bg (Nat.beq z sz) (bg (Nat.ble (Nat.add o (Nat.mul l sz)) rn) (bg (Nat.ble fz (Nat.succ (Nat.add o (Nat.mul l sz)))) (growK cs b o l n sz e fz true new h k))))) = true := hk3
        cases ro with
        | true => cases hk4
        | false =>
          obtain ⟨h0, h2⟩ := bg_true.1 (show bg (Nat.beq e0 e) (bg (Nat.beq z sz) (bg (Nat.ble (Nat.add o (Nat.mul l sz)) rn) (bg (Nat.ble fz (Nat.succ (Nat.add o (Nat.mul l sz)))) (growK cs b o l n sz e fz true new h k)))) = true from hk4)
          obtain ⟨h3, h4⟩ := bg_true.1 h2
          obtain ⟨h5, h6⟩ := bg_true.1 h4
          obtain ⟨h7, h8⟩ := bg_true.1 h6
          rw [nbeq, decide_eq_true_iff] at h0 h3
          rw [nble, decide_eq_true_iff] at h5 h7
          subst h3
          exact growK_true (wild := true) hok hlen hby hg h5 hc ⟨rfl, rfl, h7, h0⟩ rfl h8

/-! ### what is appended -/
theorem zeroCells_rep {ρ : Ren} {z : List V} {zero : Array Value} (h : VRL ρ z zero.toList) (n : Nat) : VRL ρ (repL z n) (Builtin.zeroCells zero n).toList := h.rep n
theorem zeroCells_size {zero : Array Value} (n : Nat) : (Builtin.zeroCells zero n).size = n * zero.size := by simp [Builtin.zeroCells]
/-- a source, on either side -/
def SrcOk (P : Program) (sz n : Nat) (x : V) (new : List V) (h : H) : Prop := ∀ (ρ : Ren) (w : World) (y : Value), HR P ρ h w → VR ρ x y → (Builtin.lenOf y).run P w = .ok n w ∧
  ∀ m, m ≤ n → ∃ newA : Array Value, VRL ρ (new.take (m * sz)) newA.toList ∧ ∀ d, (Builtin.firstCells sz m y).run P { w with drawn := d } = .ok newA { w with drawn := d }
theorem lenS_true {x : V} {sz : Nat} {k : Nat → Bool} (h : lenS x sz k = true) : (x = .nils ∧ k 0 = true) ∨ (∃ b o n c, x = .slice b o n c ∧ k n = true) ∨ ∃ s, x = .str s ∧ k s.length = true := by
  rcases onSrc_true.1 h with ⟨rfl, h2⟩ | ⟨b, o, n, c, rfl, h2⟩ | ⟨s, rfl, h2⟩ | ⟨z, rfl, h2⟩
  · exact .inl ⟨rfl, h2⟩
  · exact .inr (.inl ⟨b, o, n, c, rfl, h2⟩)
  · rw [len0] at h2; exact .inr (.inr ⟨s, rfl, h2⟩)
  · cases h2
theorem VRL.takeN {ρ : Ren} {vs : List V} {xs : List Value} (h : VRL ρ vs xs) (n : Nat) : VRL ρ (vs.take n) (xs.take n) := by have := h.sub 0 n; simpa using this
theorem src_true {x : V} {sz : Nat} {h : H} {k1 : Nat → List V → Bool} (hl : lenS x sz (fun n => srcK sz x h (k1 n)) = true) : ∃ n new, k1 n new = true ∧ new.length = n * sz ∧ SrcOk P sz n x new h := by
  rcases lenS_true hl with ⟨rfl, h2⟩ | ⟨b, o, n, c, rfl, h2⟩ | ⟨s, rfl, h2⟩
  · have h3 : k1 0 [] = true := h2
    refine ⟨0, [], h3, by simp, fun ρ w y hr hy => ?_⟩
    rw [hy.nils_inv]
    exact ⟨rfl, fun m hm => ⟨#[], by simpa using VRL.nil, fun d => rfl⟩⟩
  · obtain ⟨rn, cs, e, wi, ro, fz, hg, h3⟩ := rowK_true.1 (show rowK h b (fun rn cs _ _ _ _ => bg (Nat.ble (Nat.add o (Nat.mul n sz)) rn) (ldK cs (Nat.mul n sz) o (k1 n))) = true from h2)
    obtain ⟨h4, h5⟩ := bg_true.1 h3
    rw [nble, decide_eq_true_iff] at h4
    obtain ⟨l, ⟨hl1, hl2⟩, h6⟩ := ldK_true.1 h5
    refine ⟨n, l, h6, hl1, fun ρ w y hr hy => ?_⟩
    obtain ⟨cc, s, wl, a, cp', hb, rfl, g1, g2, _, _, g5⟩ := hy.slice_inv
    obtain ⟨_, arr, fr, hh, hrow, _⟩ := hr.row hb hg
    refine ⟨rfl, fun m hm => ?_⟩
    have h4' : o + n * sz ≤ rn := h4
    have hl1' : l.length = n * sz := hl1
    obtain ⟨xs, hx1, hx2⟩ := hrow.list (by rw [hl1']; exact h4') hl2
    refine ⟨(xs.take (m * sz)).toArray, by simpa using hx1.takeN _, fun d => ?_⟩
    rcases g5 with g5 | rfl
    · have : m = 0 := by omega
      subst this
      have e0 : Builtin.firstCells sz 0 (.slice (some a) n cp') = loadCells a (0 * sz) := rfl
      rw [e0, Nat.zero_mul]; simp; rfl
    · have hmul : m * sz ≤ n * sz := Nat.mul_le_mul_right _ hm
      have hlx : (xs.take (m * sz)).length = m * sz := by rw [List.length_take, hx1.length, hl1']; omega
      have := run_loadCells_at (P := P) (w := { w with drawn := d }) (c := cc) (o := s + o) (arr := arr) (e := e) (fr := fr) hh (xs.take (m * sz)) (fun j x hx => by
        rw [List.getElem?_take] at hx
        split at hx
        · exact hx2 j x hx
        · cases hx)
      rw [hlx] at this
      exact this
  · obtain ⟨h3, h4⟩ := bg_true.1 (show bg (Nat.beq sz 1) (k1 s.length (natsV s)) = true from h2)
    rw [nbeq, decide_eq_true_iff] at h3; subst h3
    refine ⟨s.length, natsV s, h4, by simp [natsV], fun ρ w y hr hy => ?_⟩
    obtain ⟨b, rfl, hb⟩ := hy.str_inv
    refine ⟨by rw [← hb, bytesOf_length]; rfl, fun m hm => ?_⟩
    refine ⟨(b.extract 0 m).data.map fun b => .int .u8 b.toNat, ?_, fun d => rfl⟩
    have := natsV_VRL (ρ := ρ) (b.extract 0 m)
    rw [bytesOf_extract, hb, sub_eq] at this
    rw [Nat.mul_one]
    have e : (natsV s).take m = natsV ((s.drop 0).take (m - 0)) := by simp [natsV, List.map_take]
    rw [e]; exact this
theorem appB_true {t t2 : Nat} {s x : V} {h : H} {k : V → H → Bool} (hok : h.ok) (hk : appB P t t2 s x h k = true) : ∃ v h', k v h' = true ∧ h'.ok ∧ Ext h h' ∧
    ∀ (ts : Array TypeId) (ty : TypeId) (ρ : Ren) (w : World) (y y' : Value), ts[0]? = some t → ts[1]? = some t2 → HR P ρ h w → VR ρ s y → VR ρ x y' →
      ∃ r w' ρ', (Builtin.append_ ts ty #[y, y']).run P w = .ok r w' ∧ Mv ρ h w ρ' h' w' ∧ HR P ρ' h' w' ∧ VR ρ' v r ∧ Nw ρ ρ' fun b => h.next ≤ b := by
  unfold appB at hk
  rw [bsel_eq] at hk
  split at hk
  · rename_i hint
    obtain ⟨k', hu2⟩ : ∃ k', P.underlying t2 = some (.int k') := by
      unfold isIntT at hint; split at hint
      · rename_i k' hu; exact ⟨k', hu⟩
      · cases hint
    obtain ⟨e, he, hk⟩ := og_true.1 hk
    obtain ⟨sz, hsz, hk⟩ := og_true.1 hk
    obtain ⟨by_, hby, hk⟩ := og_true.1 hk
    obtain ⟨z, hz, hk⟩ := og_true.1 hk
    obtain ⟨j, n, rfl, hk2⟩ := natK_true.1 hk
    obtain ⟨h1, hk3⟩ := bg_true.1 hk2
    obtain ⟨h2, hk4⟩ := bg_true.1 hk3
    rw [nbeq, len0, decide_eq_true_iff] at h1
    rw [nble, decide_eq_true_iff] at h2
    have hu := und_slice he
    obtain ⟨zv, hzr, hzl⟩ := run_zcells hz
    obtain ⟨v, h', g1, g2, g3, g4⟩ := appendK_true (P := P) hok (by rw [repL_length, h1]) hk4
    refine ⟨v, h', g1, g2, g3, fun ts ty ρ w y y' h0 h1' hr hy hy' => ?_⟩
    rw [hy'.int_inv]
    have hti : ∃ ti : TypeInfo, (∀ w, (typeInfo e).run P w = .ok ti w) ∧ ti.bytes = by_ := by
      unfold bytesT at hby; split at hby
      · rename_i i hi; cases hby; exact ⟨i, fun w => by simp [typeInfo, Sem.run_bind, hi], rfl⟩
      · cases hby
    obtain ⟨ti, hti, rfl⟩ := hti
    have hzs : zv.cells.size = sz := by rw [h1, ← (hzl ρ).length]; simp
    have hnew : VRL ρ (repL z n) (if n * sz = 0 then #[] else Builtin.zeroCells zv.cells n).toList := by
      by_cases hz0 : n * sz = 0
      · rw [if_pos hz0]
        have : repL z n = [] := List.length_eq_zero_iff.1 (by rw [repL_length, ← h1, hz0])
        rw [this]; exact VRL.nil
      · rw [if_neg hz0]; exact zeroCells_rep (hzl ρ) n
    refine g4 ρ w y _ (fun y => Builtin.append_ ts ty #[y, .int j (Int.ofNat n)]) hr hy hnew ⟨fun base sLen sCap w' hc hst hno => ?_, fun base sLen sCap old hc hb hold => ?_⟩
    · exact appendZ_in h0 h1' hu hsz hu2 hti hzr h2 hc rfl hst hno
    · obtain ⟨cap, hcap, hrun⟩ := appendZ_grow (new := if n * sz = 0 then #[] else Builtin.zeroCells zv.cells n) (ty := ty) (j := j) h0 h1' hu hsz hu2 hti hzr h2 hc hb rfl hold
      exact ⟨cap, _, hcap, by rw [zeroCells_size, hzs], hrun⟩
  · rename_i hint
    obtain ⟨hhas, hk⟩ := bg_true.1 hk
    obtain ⟨d2, hu2⟩ := und_has hhas
    obtain ⟨e, he, hk⟩ := og_true.1 hk
    obtain ⟨sz, hsz, hk⟩ := og_true.1 hk
    obtain ⟨by_, hby, hk⟩ := og_true.1 hk
    obtain ⟨z, hz, hk⟩ := og_true.1 hk
    obtain ⟨h1, hk3⟩ := bg_true.1 hk
    rw [nbeq, len0, decide_eq_true_iff] at h1
    have hu := und_slice he
    obtain ⟨zv, hzr, hzl⟩ := run_zcells hz
    obtain ⟨n, new, hk4, _, hsrc⟩ := src_true (P := P) hk3
    obtain ⟨h2, hk5⟩ := bg_true.1 hk4
    rw [nbeq, len0, decide_eq_true_iff] at h2
    have h2' : new.length = n * sz := h2
    obtain ⟨v, h', g1, g2, g3, g4⟩ := appendK_true (P := P) hok h2' hk5
    refine ⟨v, h', g1, g2, g3, fun ts ty ρ w y y' h0 h1' hr hy hy' => ?_⟩
    have hti : ∃ ti : TypeInfo, (∀ w, (typeInfo e).run P w = .ok ti w) ∧ ti.bytes = by_ := by
      unfold bytesT at hby; split at hby
      · rename_i i hi; cases hby; exact ⟨i, fun w => by simp [typeInfo, Sem.run_bind, hi], rfl⟩
      · cases hby
    obtain ⟨ti, hti, rfl⟩ := hti
    have hd : ∀ k, d2 ≠ .int k := fun k hd => by subst hd; simp [isIntT, hu2] at hint
    have hzs : zv.cells.size = sz := by rw [h1, ← (hzl ρ).length]; simp
    obtain ⟨hl, hf⟩ := hsrc ρ w y' hr hy'
    obtain ⟨newA, hn1, hn2⟩ := hf n (Nat.le_refl _)
    rw [List.take_of_length_le (by rw [h2']; exact Nat.le_refl _)] at hn1
    refine g4 ρ w y _ (fun y => Builtin.append_ ts ty #[y, y']) hr hy hn1 ⟨fun base sLen sCap w' hc hst hno => ?_, fun base sLen sCap old hc hb hold => ?_⟩
    · exact append_in h0 h1' hu hsz hu2 hd hl (hn2 w.drawn) hc hst hno
    · obtain ⟨cap, hcap, hrun⟩ := append_grow (ty := ty) h0 h1' hu hsz hu2 hd hti hzr hl hc hb hold hn2
      exact ⟨cap, _, hcap, by rw [zeroCells_size, hzs], hrun⟩
end Go.Ev
/-
  ENGINE, PART 24: copy, clear, delete, strings in place; all active operations without a call.
-/
namespace Go.Ev
variable {P : Program}

/-- what a builtin does that writes -/
def BDoes (P : Program) (h : H) (x : V) (v : V) (h' : H) (op : Value → Sem Value) : Prop := ∀ (ρ : Ren) (w : World) (y : Value), HR P ρ h w → VR ρ x y →
  ∃ r w' ρ', (op y).run P w = .ok r w' ∧ Mv ρ h w ρ' h' w' ∧ HR P ρ' h' w' ∧ VR ρ' v r ∧ Nw ρ ρ' fun b => h.next ≤ b
theorem copyK_true {t : Nat} {d s : V} {h : H} {k : V → H → Bool} (hok : h.ok) (hk : copyK P t d s h k = true) : ∃ v h', k v h' = true ∧ h'.ok ∧ Ext h h' ∧
    ∀ (ts : Array TypeId) (ty : TypeId) (ρ : Ren) (w : World) (y y' : Value), ts[0]? = some t → HR P ρ h w → VR ρ d y → VR ρ s y' →
      ∃ r w' ρ', (Builtin.copy_ ts ty #[y, y']).run P w = .ok r w' ∧ Mv ρ h w ρ' h' w' ∧ HR P ρ' h' w' ∧ VR ρ' v r ∧ Nw ρ ρ' fun b => h.next ≤ b := by
  obtain ⟨e, he, hk⟩ := og_true.1 hk
  obtain ⟨sz, hsz, hk⟩ := og_true.1 hk
  have hu := und_slice he
  cases d with
  | nils =>
    have hk2 : lenS s sz (fun _ => k (.int .i64 0) h) = true := hk
    have nil : ∀ (ts : Array TypeId) (ty : TypeId) (w : World) (y' : Value) (n : Nat) (arr : Array Value), ts[0]? = some t → (Builtin.lenOf y').run P w = .ok n w → (Builtin.firstCells sz 0 y').run P w = .ok arr w →
        (Builtin.copy_ ts ty #[.slice none 0 0, y']).run P w = .ok (.int .i64 0) w := by
      intro ts ty w y' n arr h0 h1 h2
      simp only [Builtin.copy_, h0, List.getElem?_toArray, List.getElem?_cons_zero, List.getElem?_cons_succ, Sem.run_bind, run_und hu, Result.andThen_ok, h1, run_sizeT hsz]
      rw [show Nat.min n 0 = 0 from Nat.min_zero n, h2]; rfl
    rcases lenS_true hk2 with ⟨rfl, h2⟩ | ⟨b, o, n, c, rfl, h2⟩ | ⟨l, rfl, h2⟩
    all_goals
      refine ⟨_, h, h2, hok, Ext.refl _, fun ts ty ρ w y y' h0 hr hy hy' => ?_⟩
      rw [hy.nils_inv]
    · rw [hy'.nils_inv]; exact ⟨_, w, ρ, nil ts ty w _ 0 #[] h0 rfl rfl, Mv.refl _ _ _, hr, VR.int _ _, Nw.refl _ _⟩
    · obtain ⟨_, _, _, a, cp', _, rfl, _⟩ := hy'.slice_inv
      refine ⟨_, w, ρ, nil ts ty w _ n #[] h0 rfl ?_, Mv.refl _ _ _, hr, VR.int _ _, Nw.refl _ _⟩
      have e0 : Builtin.firstCells sz 0 (.slice (some a) n cp') = loadCells a (0 * sz) := rfl
      rw [e0, Nat.zero_mul]; rfl
    · obtain ⟨b, rfl, _⟩ := hy'.str_inv
      exact ⟨_, w, ρ, nil ts ty w _ b.size _ h0 rfl rfl, Mv.refl _ _ _, hr, VR.int _ _, Nw.refl _ _⟩
  | slice b o nd c =>
    obtain ⟨ns, new, hk3, hlen, hsrc⟩ := src_true (P := P) (k1 := fun ns new => bsel (Nat.beq (minN ns nd) 0) (k (.int .i64 0) h) (storeRow b o (takeN new (Nat.mul (minN ns nd) sz)) h (k (.int .i64 (Int.ofNat (minN ns nd)))))) hk
    rw [bsel_eq, nbeq, takeN_eq, minN_eq] at hk3
    have run : ∀ (ts : Array TypeId) (ty : TypeId) (w w' : World) (y' : Value) (a : Addr) (cp' : Nat) (arr : Array Value), ts[0]? = some t → (Builtin.lenOf y').run P w = .ok ns w → (Builtin.firstCells sz (min ns nd) y').run P w = .ok arr w →
        (storeCells a arr.toList).run P w = .ok () w' → (Builtin.copy_ ts ty #[.slice (some a) nd cp', y']).run P w = .ok (.int .i64 (Int.ofNat (min ns nd))) w' := by
      intro ts ty w w' y' a cp' arr h0 h1 h2 h3
      simp only [Builtin.copy_, h0, List.getElem?_toArray, List.getElem?_cons_zero, List.getElem?_cons_succ, Sem.run_bind, run_und hu, Result.andThen_ok, h1, run_sizeT hsz]
      rw [show Nat.min ns nd = min ns nd from rfl, h2]
      simp only [Result.andThen_ok, Sem.run_bind, h3]; rfl
    by_cases h0 : min ns nd = 0
    · rw [if_pos (by simpa using h0)] at hk3
      refine ⟨_, h, hk3, hok, Ext.refl _, fun ts ty ρ w y y' hts hr hy hy' => ?_⟩
      obtain ⟨cc, sh, wl, a, cp', hb, rfl, _⟩ := hy.slice_inv
      obtain ⟨hl, hf⟩ := hsrc ρ w y' hr hy'
      obtain ⟨newA, hn1, hn2⟩ := hf (min ns nd) (Nat.min_le_left _ _)
      have hnil : newA.toList = [] := by
        have := hn1.length; rw [h0, Nat.zero_mul, List.take_zero] at this; exact List.length_eq_zero_iff.1 this
      have := run ts ty w w y' a cp' newA hts hl (hn2 w.drawn) (by rw [hnil]; rfl)
      rw [h0] at this
      exact ⟨_, w, ρ, this, Mv.refl _ _ _, hr, VR.int _ _, Nw.refl _ _⟩
    · rw [if_neg (by simpa using h0)] at hk3
      obtain ⟨h', g1, g2, g3, g4⟩ := storeRow_true (P := P) hok hk3
      refine ⟨_, h', g1, g2, g3, fun ts ty ρ w y y' hts hr hy hy' => ?_⟩
      obtain ⟨cc, sh, wl, a, cp', hb, rfl, e1, e2, _, _, e5⟩ := hy.slice_inv
      have ha : a = ⟨cc, sh + o, none⟩ := e5.resolve_left (by omega)
      subst ha
      obtain ⟨hl, hf⟩ := hsrc ρ w y' hr hy'
      obtain ⟨newA, hn1, hn2⟩ := hf (min ns nd) (Nat.min_le_left _ _)
      obtain ⟨w', e6, e7, e8⟩ := g4 ρ w newA.toList cc sh wl hr hb hn1
      exact ⟨_, w', ρ, run ts ty w w' y' _ cp' newA hts hl (hn2 w.drawn) e6, e7, e8, VR.int _ _, Nw.refl _ _⟩
  | _ =>
    rcases lenS_true hk with ⟨_, h2⟩ | ⟨_, _, _, _, _, h2⟩ | ⟨_, _, h2⟩ <;> cases h2
theorem clearK_true {t : Nat} {x : V} {h : H} {k : H → Bool} (hok : h.ok) (hk : clearK P t x h k = true) : ∃ h', k h' = true ∧ h'.ok ∧ Ext h h' ∧
    ∀ (ts : Array TypeId) (ty : TypeId) (ρ : Ren) (w : World) (y : Value), ts[0]? = some t → HR P ρ h w → VR ρ x y → ∃ w', (Builtin.clear_ ts ty #[y]).run P w = .ok (.tuple #[]) w' ∧ Mv ρ h w ρ h' w' ∧ HR P ρ h' w' := by
  obtain ⟨e, he, hk⟩ := og_true.1 hk
  have hu := und_slice he
  rcases onSl_true.1 hk with ⟨rfl, hk1⟩ | ⟨b, o, n, c, rfl, hk1⟩
  · refine ⟨h, hk1, hok, Ext.refl _, fun ts ty ρ w y h0 hr hy => ⟨w, ?_, Mv.refl _ _ _, hr⟩⟩
    rw [hy.nils_inv]
    simp only [Builtin.clear_, h0, List.getElem?_toArray, List.getElem?_cons_zero, Sem.run_bind, run_und hu, Result.andThen_ok]; rfl
  · obtain ⟨sz, hsz, hk2⟩ := og_true.1 hk1
    obtain ⟨z, hz, hk3⟩ := og_true.1 hk2
    obtain ⟨h1, hk4⟩ := bg_true.1 hk3
    obtain ⟨zv, hzr, hzl⟩ := run_zcells hz
    cases n with
    | zero =>
      refine ⟨h, hk4, hok, Ext.refl _, fun ts ty ρ w y h0 hr hy => ⟨w, ?_, Mv.refl _ _ _, hr⟩⟩
      obtain ⟨_, _, _, _, _, _, rfl, _⟩ := hy.slice_inv
      simp only [Builtin.clear_, h0, List.getElem?_toArray, List.getElem?_cons_zero, Sem.run_bind, run_und hu, Result.andThen_ok]; rfl
    | succ n =>
      obtain ⟨h', g1, g2, g3, g4⟩ := storeRow_true (P := P) hok hk4
      refine ⟨h', g1, g2, g3, fun ts ty ρ w y h0 hr hy => ?_⟩
      obtain ⟨cc, sh, wl, a, cp', hb, rfl, e1, e2, _, _, e5⟩ := hy.slice_inv
      have ha : a = ⟨cc, sh + o, none⟩ := e5.resolve_left (by omega)
      subst ha
      obtain ⟨w', e6, e7, e8⟩ := g4 ρ w _ cc sh wl hr hb (zeroCells_rep (hzl ρ) (n + 1))
      refine ⟨w', ?_, e7, e8⟩
      simp only [Builtin.clear_, h0, List.getElem?_toArray, List.getElem?_cons_zero, Sem.run_bind, run_und hu, Result.andThen_ok, hzr, e6]; rfl
theorem delE_true {key : V} : ∀ {es : List (V × V)} {k : List (V × V) → Bool}, delE key es k = true → ∃ es', k es' = true ∧ ∀ (ρ : Ren) (l : List MapEntry) (kv : Value) (d : TypeDesc) (i : Nat), KD d key → MR ρ es l → VR ρ key kv →
      (Instr.findNow d kv l i = some none ∧ MR ρ es' l) ∨ (∃ j x, Instr.findNow d kv l i = some (some (i + j, x)) ∧ j < l.length ∧ MR ρ es' (l.eraseIdx j))
  | [], k, h => ⟨_, h, fun ρ l kv d i hd hm hk => by cases hm; exact .inl ⟨rfl, .nil⟩⟩
  | (k1, v1) :: es, k, h => by
    obtain ⟨r, h1, heq, h2⟩ := keyEq_true (show keyEq key k1 (fun r => bsel r (k es) (delE key es fun es' => k ((k1, v1) :: es'))) = true from h)
    rw [bsel_eq] at h1
    cases r with
    | true =>
      refine ⟨_, by simpa using h1, fun ρ l kv d i hd hm hk => ?_⟩
      cases hm with
      | cons hk1 hv1 hm' =>
        rename_i e l
        exact .inr ⟨0, e.val, by simp only [Instr.findNow, h2 ρ kv _ d hd hk hk1]; rfl, by simp, hm'⟩
    | false =>
      obtain ⟨es', h3, h4⟩ := delE_true (show delE key es (fun es' => k ((k1, v1) :: es')) = true by simpa using h1)
      refine ⟨_, h3, fun ρ l kv d i hd hm hk => ?_⟩
      cases hm with
      | cons hk1 hv1 hm' =>
        rename_i e l
        rcases h4 ρ l kv d (i + 1) hd hm' hk with ⟨h5, h6⟩ | ⟨j, x, h5, h6, h7⟩
        · exact .inl ⟨by simp only [Instr.findNow, h2 ρ kv _ d hd hk hk1]; exact h5, .cons hk1 hv1 h6⟩
        · refine .inr ⟨j + 1, x, ?_, by simpa using h6, by simpa using MR.cons hk1 hv1 h7⟩
          simp only [Instr.findNow, h2 ρ kv _ d hd hk hk1]; rw [h5]; congr 3; omega
theorem delK_true {t : Nat} {x key : V} {h : H} {k : H → Bool} (hok : h.ok) (hk : (og (mapT P t) fun d => bg (keyT P d.1 key) (onMap x (k h) fun b => mapK h b fun es => delE key es fun es' => h.putK b (some (.map es')) fun h' => k h')) = true) :
    ∃ h', k h' = true ∧ h'.ok ∧ Ext h h' ∧ ∀ (ts : Array TypeId) (ty : TypeId) (ρ : Ren) (w : World) (y y' : Value), ts[0]? = some t → HR P ρ h w → VR ρ x y → VR ρ key y' →
      ∃ w', (Builtin.delete_ ts ty #[y, y']).run P w = .ok (.tuple #[]) w' ∧ Mv ρ h w ρ h' w' ∧ HR P ρ h' w' := by
  obtain ⟨d, hd, hk⟩ := og_true.1 hk
  obtain ⟨hkt, hk⟩ := bg_true.1 hk
  have ht := und_map hd
  obtain ⟨dk, hdk, hKD⟩ := keyT_true hkt
  rcases onMap_true.1 hk with ⟨rfl, hk1⟩ | ⟨b, rfl, hk1⟩
  · refine ⟨h, hk1, hok, Ext.refl _, fun ts ty ρ w y y' h0 hr hy hy' => ⟨w, ?_, Mv.refl _ _ _, hr⟩⟩
    rw [hy.nilm_inv]
    simp only [Builtin.delete_, h0, List.getElem?_toArray, List.getElem?_cons_zero, List.getElem?_cons_succ, Sem.run_bind, run_und ht, Result.andThen_ok, checkKey_run (n := 9999) hdk hKD hy']; rfl
  · obtain ⟨es, hg, hk2⟩ := mapK_true.1 hk1
    obtain ⟨es', hk3, hdel⟩ := delE_true hk2
    rw [H.putK_eq] at hk3
    refine ⟨_, hk3, hok.put (hok _ _ hg), Ext.put _ _ _, fun ts ty ρ w y y' h0 hr hy hy' => ?_⟩
    obtain ⟨c, s, wl, hb, rfl⟩ := hy.map_inv
    obtain ⟨ob, ho1, l, clock, rfl, hmr, hbn⟩ := hr.obj _ _ _ _ _ hb hg
    have fin : ∀ l', MR ρ es' (Array.toList l') → Born (Array.toList l') clock → (Builtin.delete_ ts ty #[.map (some c), y']).run P w = .ok (.tuple #[]) (w.putB c (.map l' clock)) →
        ∃ w', (Builtin.delete_ ts ty #[.map (some c), y']).run P w = .ok (.tuple #[]) w' ∧ Mv ρ h w ρ (h.put b (some (.map es'))) w' ∧ HR P ρ (h.put b (some (.map es'))) w' := fun l' hm hbn' hrun =>
      ⟨_, hrun, Mv.store (ob' := .map l' clock) hb hg rfl, hr.store hb hg rfl ⟨l', clock, rfl, hm, hbn'⟩⟩
    rcases hdel ρ l.toList y' dk 0 hKD hmr hy' with ⟨h5, h6⟩ | ⟨j, x, h5, h6, h7⟩
    · refine fin l h6 hbn ?_
      simp only [Builtin.delete_, h0, List.getElem?_toArray, List.getElem?_cons_zero, List.getElem?_cons_succ, Sem.run_bind, run_und ht, Result.andThen_ok, getObj_run (fun _ _ _ => by simp) ho1, checkKey_run (n := 9999) hdk hKD hy', findKey_run hdk h5,
        setObj_run ho1 (fun _ _ _ => by simp) (o' := .map l clock) (fun _ _ _ => by simp)]; rfl
    · refine fin (l.eraseIdxIfInBounds j) ?_ ?_ ?_
      · have hj : j < l.size := by simpa using h6
        simp only [Array.eraseIdxIfInBounds, hj, dif_pos, Array.toList_eraseIdx]; exact h7
      · have hj : j < l.size := by simpa using h6
        simp only [Array.eraseIdxIfInBounds, hj, dif_pos, Array.toList_eraseIdx]; exact hbn.erase j
      · simp only [Builtin.delete_, h0, List.getElem?_toArray, List.getElem?_cons_zero, List.getElem?_cons_succ, Sem.run_bind, run_und ht, Result.andThen_ok, getObj_run (fun _ _ _ => by simp) ho1, checkKey_run (n := 9999) hdk hKD hy', findKey_run hdk h5, Nat.zero_add,
          setObj_run ho1 (fun _ _ _ => by simp) (o' := .map (l.eraseIdxIfInBounds j) clock) (fun _ _ _ => by simp)]; rfl
end Go.Ev
