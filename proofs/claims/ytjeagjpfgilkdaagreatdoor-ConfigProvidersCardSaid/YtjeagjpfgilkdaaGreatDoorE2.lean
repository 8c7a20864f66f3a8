/-
  AN ENGINE: a verified evaluator of the model's code on an abstract heap (part 3 of 8). Its laws are proved here, from the model's own; no condition.
-/
import Derived.Test.YtjeagjpfgilkdaaGreatDoorE1
import Derived.Laws.StructEq
import Derived.Laws.Tables
set_option linter.unusedVariables false
set_option linter.unusedSimpArgs false
/-
  ENGINE, PART 5: operations that only compute.
-/
namespace Go.Ev
variable {P : Program}

/-- the operation yields a value, whatever the memory -/
def Pure (P : Program) (o : Oper) (tm : T V) (v : V) : Prop :=
  ∀ (ρ : Ren) (ev : Operand → Value) (w : World), OpsR ρ tm ev o.op.operands.toList → ∃ x, (execOp ev o).run P w = .ok (.value x) w ∧ VR ρ v x

theorem VR.bool_inv {ρ : Ren} {b : Bool} {x : Value} (h : VR ρ (.bool b) x) : x = .bool b := by simpa only [VR] using h
theorem VR.int_inv {ρ : Ren} {k : IntKind} {n : Int} {x : Value} (h : VR ρ (.int k n) x) : x = .int k n := by simpa only [VR] using h
theorem VR.str_inv {ρ : Ren} {s : List Nat} {x : Value} (h : VR ρ (.str s) x) : ∃ b : ByteArray, x = .string b ∧ bytesOf b = s := by simpa only [VR] using h
theorem VR.ptr_inv {ρ : Ren} {b o : Nat} {x : Value} (h : VR ρ (.ptr b o) x) : ∃ c s w, ρ b = some (c, s, w) ∧ x = .pointer (some ⟨c, s + o, none⟩) := by simpa only [VR] using h
theorem VR.slice_inv {ρ : Ren} {b o l cp : Nat} {x : Value} (h : VR ρ (.slice b o l cp) x) :
    ∃ c s w a cp', ρ b = some (c, s, w) ∧ x = .slice (some a) l cp' ∧ l ≤ cp ∧ cp ≤ cp' ∧ (w.1 = 0 → cp' = cp) ∧ (∀ z, w.1 = z + 1 → s + o + cp' * z ≤ w.2) ∧ (cp' = 0 ∨ a = ⟨c, s + o, none⟩) := by simpa only [VR] using h
theorem VR.agg_inv {ρ : Ren} {cs : List V} {x : Value} (h : VR ρ (.agg cs) x) : ∃ a, x = .agg a ∧ VRL ρ cs a.toList := by simpa only [VR] using h
theorem VR.tuple_inv {ρ : Ren} {cs : List V} {x : Value} (h : VR ρ (.tuple cs) x) : ∃ a, x = .tuple a ∧ VRL ρ cs a.toList := by simpa only [VR] using h
theorem VR.fn_inv {ρ : Ren} {f : Fn} {a b : List V} {x : Value} (h : VR ρ (.fn f a b) x) : ∃ f' a' b', x = .func f' a' b' ∧ FR ρ f f' ∧ VRL ρ a a'.toList ∧ VRL ρ b b'.toList := by simpa only [VR] using h
theorem VR.iface_inv {ρ : Ren} {t : Nat} {v : V} {x : Value} (h : VR ρ (.iface t v) x) : ∃ y, x = .iface t y ∧ VR ρ v y := by simpa only [VR] using h
theorem VR.map_inv {ρ : Ren} {b : Nat} {x : Value} (h : VR ρ (.map b) x) : ∃ c s w, ρ b = some (c, s, w) ∧ x = .map (some c) := by simpa only [VR] using h
theorem VR.nilp_inv {ρ : Ren} {x : Value} (h : VR ρ .nilp x) : x = .pointer none := by simpa only [VR] using h
theorem VR.nils_inv {ρ : Ren} {x : Value} (h : VR ρ .nils x) : x = .slice none 0 0 := by simpa only [VR] using h
theorem VR.nilm_inv {ρ : Ren} {x : Value} (h : VR ρ .nilm x) : x = .map none := by simpa only [VR] using h
theorem VR.nilf_inv {ρ : Ren} {x : Value} (h : VR ρ .nilf x) : x = .nilFunc := by simpa only [VR] using h
theorem VR.nili_inv {ρ : Ren} {x : Value} (h : VR ρ .nili x) : x = .nilIface := by simpa only [VR] using h
theorem VR.bool {ρ : Ren} (b : Bool) : VR ρ (.bool b) (.bool b) := by simp only [VR]
theorem VR.int {ρ : Ren} (k : IntKind) (n : Int) : VR ρ (.int k n) (.int k n) := by simp only [VR]
theorem VR.str {ρ : Ren} {s : List Nat} (b : ByteArray) (h : bytesOf b = s) : VR ρ (.str s) (.string b) := by simp only [VR]; exact ⟨b, rfl, h⟩
theorem VR.ptr {ρ : Ren} {b c s : Nat} {w : Wl} (o : Nat) (h : ρ b = some (c, s, w)) : VR ρ (.ptr b o) (.pointer (some ⟨c, s + o, none⟩)) := by simp only [VR]; exact ⟨c, s, w, h, rfl⟩

/-! ### moves -/
theorem oMove_ok {x : Operand} {o : Oper} (ho : o.op = .move x ∨ o.op = .assign x) {tm : T V} {h : H} {k : KO} (hk : oMove x tm h k = true) : ∃ v, k v h yes = true ∧ Pure P o tm v := by
  obtain ⟨v, hv, hk⟩ := opdK_true.1 hk
  refine ⟨v, hk, fun ρ ev w hops => ⟨ev x, ?_, ?_⟩⟩
  · rcases ho with ho | ho <;> simp [execOp, ho]
  · rcases ho with ho | ho <;> exact hops x (by simp [ho, Op.operands]) v hv
theorem oPick_ok {c a b : Operand} {o : Oper} (ho : o.op = .pick c a b) {tm : T V} {h : H} {k : KO} (hk : oPick c a b tm h k = true) : ∃ v, k v h yes = true ∧ Pure P o tm v := by
  obtain ⟨vc, hvc, h2⟩ := opdK_true.1 hk
  obtain ⟨t, rfl, hk⟩ := vBool_true.1 h2
  rw [bsel_eq] at hk
  have run : ∀ (ρ : Ren) (ev : Operand → Value) (w : World), OpsR ρ tm ev o.op.operands.toList → (execOp ev o).run P w = .ok (.value (if t then ev a else ev b)) w := fun ρ ev w hops => by
    have := (hops c (by simp [ho, Op.operands]) _ hvc).bool_inv
    simp [execOp, ho, this, asBool]
  cases t
  · obtain ⟨v, hv, hk⟩ := opdK_true.1 (by simpa using hk)
    exact ⟨v, hk, fun ρ ev w hops => ⟨ev b, by rw [run ρ ev w hops]; rfl, hops b (by simp [ho, Op.operands]) v hv⟩⟩
  · obtain ⟨v, hv, hk⟩ := opdK_true.1 (by simpa using hk)
    exact ⟨v, hk, fun ρ ev w hops => ⟨ev a, by rw [run ρ ev w hops]; rfl, hops a (by simp [ho, Op.operands]) v hv⟩⟩

/-! ### structs and arrays of their parts -/
theorem VRL.set {ρ : Ren} : ∀ {vs : List V} {xs : List Value}, VRL ρ vs xs → ∀ {i : Nat} {v : V} {x : Value}, VR ρ v x → VRL ρ (vs.set i v) (xs.set i x)
  | [], xs, h, i, v, x, _ => by have := h.nil_inv; subst this; simpa using VRL.nil
  | u :: vs, l, h, i, v, x, hx => by
    obtain ⟨y, ys, rfl, h1, h2⟩ := h.cons_inv
    cases i with
    | zero => exact VRL.cons hx h2
    | succ i => exact VRL.cons h1 (VRL.set h2 hx)
theorem lay_foldl {ρ : Ren} : ∀ {l : List V} {xs : List Value} {cs : List V} {arr : Array Value} {off : Nat} (j : Nat), VRL ρ l xs → VRL ρ cs arr.toList →
    VRL ρ (layL l cs (off + j)) ((xs.zipIdx j).foldl (fun (cs : Array Value) (p : Value × Nat) => cs.setIfInBounds (off + p.2) p.1) arr).toList
  | [], xs, cs, arr, off, j, hl, hc => by have := hl.nil_inv; subst this; simpa [layL_nil] using hc
  | v :: l, xs, cs, arr, off, j, hl, hc => by
    obtain ⟨x, xs, rfl, h1, h2⟩ := hl.cons_inv
    rw [layL_cons, setL_eq]
    simp only [List.zipIdx_cons, List.foldl_cons]
    exact lay_foldl (off := off) (j + 1) h2 (by simpa using hc.set h1)
theorem size_lay (off : Nat) : ∀ (l : List (Value × Nat)) (arr : Array Value), (l.foldl (fun (cs : Array Value) (p : Value × Nat) => cs.setIfInBounds (off + p.2) p.1) arr).size = arr.size
  | [], arr => rfl
  | p :: l, arr => by simp only [List.foldl_cons]; rw [size_lay off l]; simp
theorem fill_step {ρ : Ren} {place : Nat → Option (Nat × Nat)} {cs : List V} {arr : Array Value} {i off size n : Nat} {x : Value} {rest : List (Nat × Value)} {v : V} (hp : place i = some (off, size))
    (hv : VR ρ v x) (hc : VRL ρ cs arr.toList) (hz : size = (cells v).length) (hn : arr.size = n) (hb : off + (cells v).length ≤ n) :
    ∃ arr' : Array Value, Instr.fill place arr ((i, x) :: rest) = Instr.fill place arr' rest ∧ VRL ρ (layL (cells v) cs off) arr'.toList ∧ arr'.size = n := by
  have hl := hv.cells.length
  have e : x.cells.size = (cells v).length := by rw [← hl]; simp
  refine ⟨x.cells.zipIdx.foldl (fun cs (c, j) => cs.setIfInBounds (off + j) c) arr, ?_, ?_, ?_⟩
  · simp only [Instr.fill, hp]
    rw [if_neg]
    simp only [e, hz, decide_eq_true_eq, Bool.or_eq_true, ne_eq, not_or]
    simp; omega
  · have := lay_foldl (off := off) 0 hv.cells hc
    simp only [Nat.add_zero] at this
    rw [← Array.foldl_toList]
    simpa using this
  · rw [← Array.foldl_toList]
    exact (size_lay off _ _).trans hn
theorem layL_length : ∀ (l cs : List V) (off : Nat), (layL l cs off).length = cs.length
  | [], cs, off => rfl
  | v :: l, cs, off => by rw [layL_cons, layL_length, setL_eq]; simp
theorem fillS_true {pl : List (Nat × Nat)} {n : Nat} {tm : T V} {k : List V → Bool} : ∀ {ps : List (Nat × Operand)} {cs : List V}, fillS pl n ps cs tm k = true → ∃ l, k l = true ∧
    ∀ (ρ : Ren) (ev : Operand → Value) (arr : Array Value) (place : Nat → Option (Nat × Nat)), (∀ i, place i = pl[i]?) → (∀ p ∈ ps, ∀ v, opdV tm p.2 = some v → VR ρ v (ev p.2)) → VRL ρ cs arr.toList → arr.size = n →
      ∃ arr', Instr.fill place arr (ps.map fun p => (p.1, ev p.2)) = some arr' ∧ VRL ρ l arr'.toList
  | [], cs, h => ⟨cs, h, fun ρ ev arr place _ _ hc _ => ⟨arr, rfl, hc⟩⟩
  | (f, x) :: ps, cs, h => by
    have e : fillS pl n ((f, x) :: ps) cs tm k = og (nth pl f) fun d => Prod.rec (motive := fun _ => Bool) (fun off sz => opdK x tm fun v => cellsV v v fun l => bg (Nat.beq sz (len l 0)) (bg (Nat.ble (Nat.add off (len l 0)) n) (fillS pl n ps (layL l cs off) tm k))) d := rfl
    rw [e] at h
    obtain ⟨⟨off, sz⟩, hd, h⟩ := og_true.1 h
    obtain ⟨v, hv, h⟩ := opdK_true.1 h
    rw [cellsV_eq] at h
    obtain ⟨h1, h⟩ := bg_true.1 h
    obtain ⟨h2, h⟩ := bg_true.1 h
    rw [nbeq, len0, decide_eq_true_iff] at h1
    rw [nble, len0, decide_eq_true_iff] at h2
    obtain ⟨l, hl, hgo⟩ := fillS_true h
    refine ⟨l, hl, fun ρ ev arr place hpl hops hc hn => ?_⟩
    rw [nth_eq] at hd
    obtain ⟨arr', e1, e2, e3⟩ := fill_step (rest := ps.map fun p => (p.1, ev p.2)) ((hpl f).trans hd) (hops (f, x) (by simp) v hv) hc h1 hn h2
    obtain ⟨arr'', e4, e5⟩ := hgo ρ ev arr' place hpl (fun p hp => hops p (by simp [hp])) e2 e3
    exact ⟨arr'', by simp only [List.map_cons]; rw [e1, e4], e5⟩
theorem fillA_true {sz n : Nat} {tm : T V} {k : List V → Bool} : ∀ {ps : List (Nat × Operand)} {cs : List V}, fillA sz n ps cs tm k = true → ∃ l, k l = true ∧ l.length = cs.length ∧
    ∀ (ρ : Ren) (ev : Operand → Value) (arr : Array Value), (∀ p ∈ ps, ∀ v, opdV tm p.2 = some v → VR ρ v (ev p.2)) → VRL ρ cs arr.toList → arr.size = n →
      ∃ arr', Instr.fill (fun i => some (i * sz, sz)) arr (ps.map fun p => (p.1, ev p.2)) = some arr' ∧ VRL ρ l arr'.toList
  | [], cs, h => ⟨cs, h, rfl, fun ρ ev arr _ hc _ => ⟨arr, rfl, hc⟩⟩
  | (f, x) :: ps, cs, h => by
    have e : fillA sz n ((f, x) :: ps) cs tm k = opdK x tm fun v => cellsV v v fun l => bg (Nat.beq sz (len l 0)) (bg (Nat.ble (Nat.add (Nat.mul f sz) (len l 0)) n) (fillA sz n ps (layL l cs (Nat.mul f sz)) tm k)) := rfl
    rw [e] at h
    obtain ⟨v, hv, h⟩ := opdK_true.1 h
    rw [cellsV_eq] at h
    obtain ⟨h1, h⟩ := bg_true.1 h
    obtain ⟨h2, h⟩ := bg_true.1 h
    rw [nbeq, len0, decide_eq_true_iff] at h1
    rw [nble, len0, decide_eq_true_iff] at h2
    obtain ⟨l, hl, hlen, hgo⟩ := fillA_true h
    refine ⟨l, hl, by rw [hlen, layL_length], fun ρ ev arr hops hc hn => ?_⟩
    obtain ⟨arr', e1, e2, e3⟩ := fill_step (place := fun i => some (i * sz, sz)) (rest := ps.map fun p => (p.1, ev p.2)) rfl (hops (f, x) (by simp) v hv) hc h1 hn h2
    obtain ⟨arr'', e4, e5⟩ := hgo ρ ev arr' (fun p hp => hops p (by simp [hp])) e2 e3
    exact ⟨arr'', by simp only [List.map_cons]; rw [e1, e4], e5⟩
theorem und_struct {t : Nat} (h : structT P t = some true) : ∃ fs, P.underlying t = some (.struct fs) := by
  unfold structT at h; split at h
  · rename_i fs hu; exact ⟨fs, hu⟩
  · cases h
  · cases h
theorem und_arr {t : Nat} {d : Nat × Nat} (h : arrT P t = some d) : P.underlying t = some (.array d.1 d.2) := by
  unfold arrT at h; split at h
  · rename_i n e hu; cases h; exact hu
  · cases h
theorem und_slice {t e : Nat} (h : elemT P t = some e) : P.underlying t = some (.slice e) := by
  unfold elemT at h; split at h
  · rename_i n hu; cases h; exact hu
  · cases h
theorem parts_mem {o : Oper} {t : Nat} {ps : Array (Nat × Operand)} (ho : o.op = .build t ps ∨ ∃ n, o.op = .buildSlice t n ps) {p : Nat × Operand} (hp : p ∈ ps.toList) : p.2 ∈ o.op.operands.toList := by
  rcases ho with ho | ⟨n, ho⟩ <;> simp only [ho, Op.operands] <;> simp <;> exact ⟨p.1, by simpa using hp⟩
theorem oBuild_ok {t : Nat} {ps : Array (Nat × Operand)} {o : Oper} (ho : o.op = .build t ps) {tm : T V} {h : H} {k : KO} (hk : oBuild P t ps.toList tm h k = true) : ∃ v, k v h yes = true ∧ Pure P o tm v := by
  obtain ⟨z, hz, hk⟩ := og_true.1 hk
  obtain ⟨s, hs, hk⟩ := og_true.1 hk
  rw [bsel_eq] at hk
  obtain ⟨zv, hzr, hzl⟩ := run_zcells hz
  have hops (ρ : Ren) (ev : Operand → Value) (h : OpsR ρ tm ev o.op.operands.toList) : ∀ p ∈ ps.toList, ∀ v, opdV tm p.2 = some v → VR ρ v (ev p.2) := fun p hp v hv => h p.2 (parts_mem (.inl ho) hp) v hv
  have emap (ev : Operand → Value) : (ps.map fun (i, x) => (i, ev x)).toList = ps.toList.map fun p => (p.1, ev p.2) := by simp
  cases s with
  | true =>
    simp only [if_true] at hk
    obtain ⟨pl, hpl, hk⟩ := og_true.1 hk
    obtain ⟨l, hl, hgo⟩ := fillS_true hk
    refine ⟨.agg l, hl, fun ρ ev w hop => ?_⟩
    obtain ⟨fs, hu⟩ := und_struct hs
    simp only [placesT, hu] at hpl
    obtain ⟨arr, e1, e2⟩ := hgo ρ ev zv.cells (fun i => pl.toArray[i]?) (fun i => by simp) (hops ρ ev hop) (hzl ρ) (by rw [len0]; simpa using (hzl ρ).length)
    refine ⟨.agg arr, ?_, by simp only [VR]; exact ⟨arr, rfl, e2⟩⟩
    simp only [execOp, ho, Sem.run_bind, Instr.build, hzr, Result.andThen_ok, run_und hu, emap]
    have hm := run_places w fs.toList pl hpl
    have : (Sem.run P (Array.mapM (fun (f : Field) => do pure (f.offset, ← sizeOf f.type)) fs) w) = .ok pl.toArray w := by
      rw [Array.mapM_eq_mapM_toList]
      simp only [Sem.run_map]
      have e : (fun (f : Field) => (do pure (f.offset, ← sizeOf f.type) : Sem (Nat × Nat))) = fun f => Prod.mk f.offset <$> sizeOf f.type := by
        funext f; rw [map_eq_pure_bind]
      rw [e, hm]; rfl
    rw [this]
    simp only [Result.andThen_ok, e1]
    try rfl
  | false =>
    simp only [Bool.false_eq_true, if_false] at hk
    obtain ⟨d, hd, hk⟩ := og_true.1 hk
    obtain ⟨sz, hsz, hk⟩ := og_true.1 hk
    obtain ⟨l, hl, _, hgo⟩ := fillA_true hk
    refine ⟨.agg l, hl, fun ρ ev w hop => ?_⟩
    have hu := und_arr hd
    obtain ⟨arr, e1, e2⟩ := hgo ρ ev zv.cells (hops ρ ev hop) (hzl ρ) (by rw [len0]; simpa using (hzl ρ).length)
    refine ⟨.agg arr, ?_, by simp only [VR]; exact ⟨arr, rfl, e2⟩⟩
    simp only [execOp, ho, Sem.run_bind, Instr.build, hzr, Result.andThen_ok, run_und hu, run_sizeT hsz, emap, e1]; rfl
end Go.Ev
