/-
  AN ENGINE: a verified evaluator of the model's code on an abstract heap (part 2 of 8). Its laws are proved here, from the model's own; no condition.
-/
import Derived.Test.YtjeagjpfgilkdaaGreatDoorE0
import Derived.OrdersIn
import Derived.Laws.Sem
set_option linter.unusedVariables false
set_option linter.unusedSimpArgs false
/-
  ENGINE, PART 3: what an abstract value, object and heap say of a world; the basic steps of the heap on either side.
-/
namespace Go.Ev

/-- of a row: 0, or the cells of an element and one, where the tape has drawn its capacity; and then its size -/
abbrev Wl := Nat × Nat
/-- abstract block ↦ block, shift, kind -/
abbrev Ren := Nat → Option (Nat × Nat × Wl)
def Ren.le (ρ ρ' : Ren) : Prop := ∀ b x, ρ b = some x → ρ' b = some x
theorem Ren.le.refl (ρ : Ren) : ρ.le ρ := fun _ _ h => h
theorem Ren.le.trans {a b c : Ren} (h : a.le b) (k : b.le c) : a.le c := fun x y e => k x y (h x y e)

def FR (ρ : Ren) : Fn → Fn → Prop
  | .yield l, f' => ∃ c s w, ρ l = some (c, s, w) ∧ f' = .yield c
  | f, f' => f' = f
mutual
def VR (ρ : Ren) : V → Value → Prop
  | .bool a, x => x = .bool a
  | .int k n, x => x = .int k n
  | .str s, x => ∃ b : ByteArray, x = .string b ∧ bytesOf b = s
  | .nilp, x => x = .pointer none
  | .ptr b o, x => ∃ c s w, ρ b = some (c, s, w) ∧ x = .pointer (some ⟨c, s + o, none⟩)
  | .nils, x => x = .slice none 0 0
  | .slice b o l cp, x => ∃ c s w a cp', ρ b = some (c, s, w) ∧ x = .slice (some a) l cp' ∧ l ≤ cp ∧ cp ≤ cp' ∧ (w.1 = 0 → cp' = cp) ∧ (∀ z, w.1 = z + 1 → s + o + cp' * z ≤ w.2) ∧ (cp' = 0 ∨ a = ⟨c, s + o, none⟩)
  | .nilm, x => x = .map none
  | .map b, x => ∃ c s w, ρ b = some (c, s, w) ∧ x = .map (some c)
  | .nilf, x => x = .nilFunc
  | .fn f a b, x => ∃ f' a' b', x = .func f' a' b' ∧ FR ρ f f' ∧ VRL ρ a a'.toList ∧ VRL ρ b b'.toList
  | .nili, x => x = .nilIface
  | .iface t v, x => ∃ y, x = .iface t y ∧ VR ρ v y
  | .agg cs, x => ∃ a, x = .agg a ∧ VRL ρ cs a.toList
  | .tuple cs, x => ∃ a, x = .tuple a ∧ VRL ρ cs a.toList
def VRL (ρ : Ren) : List V → List Value → Prop
  | [], l => l = []
  | v :: vs, l => ∃ x xs, l = x :: xs ∧ VR ρ v x ∧ VRL ρ vs xs
end

theorem FR.mono {ρ ρ' : Ren} (h : ρ.le ρ') {f f' : Fn} (hf : FR ρ f f') : FR ρ' f f' := by
  cases f with
  | yield l => obtain ⟨c, s, w, hr, e⟩ := hf; exact ⟨c, s, w, h _ _ hr, e⟩
  | _ => exact hf
mutual
theorem VR.mono {ρ ρ' : Ren} (h : ρ.le ρ') : ∀ (v : V) (x : Value), VR ρ v x → VR ρ' v x
  | .bool a, x, hx => by simpa [VR] using hx
  | .int k n, x, hx => by simpa [VR] using hx
  | .str s, x, hx => by simpa [VR] using hx
  | .nilp, x, hx => by simpa [VR] using hx
  | .ptr b o, x, hx => by
    simp only [VR] at hx ⊢
    obtain ⟨c, s, w, hr, e⟩ := hx; exact ⟨c, s, w, h _ _ hr, e⟩
  | .nils, x, hx => by simpa [VR] using hx
  | .slice b o l cp, x, hx => by
    simp only [VR] at hx ⊢
    obtain ⟨c, s, w, a, cp', hr, e⟩ := hx; exact ⟨c, s, w, a, cp', h _ _ hr, e⟩
  | .nilm, x, hx => by simpa [VR] using hx
  | .map b, x, hx => by
    simp only [VR] at hx ⊢
    obtain ⟨c, s, w, hr, e⟩ := hx; exact ⟨c, s, w, h _ _ hr, e⟩
  | .nilf, x, hx => by simpa [VR] using hx
  | .fn f a b, x, hx => by
    simp only [VR] at hx ⊢
    obtain ⟨f', a', b', e, hf, ha, hb⟩ := hx
    exact ⟨f', a', b', e, hf.mono h, VRL.mono h a _ ha, VRL.mono h b _ hb⟩
  | .nili, x, hx => by simpa [VR] using hx
  | .iface t v, x, hx => by
    simp only [VR] at hx ⊢
    obtain ⟨y, e, hv⟩ := hx; exact ⟨y, e, VR.mono h v y hv⟩
  | .agg cs, x, hx => by
    simp only [VR] at hx ⊢
    obtain ⟨a, e, ha⟩ := hx; exact ⟨a, e, VRL.mono h cs _ ha⟩
  | .tuple cs, x, hx => by
    simp only [VR] at hx ⊢
    obtain ⟨a, e, ha⟩ := hx; exact ⟨a, e, VRL.mono h cs _ ha⟩
theorem VRL.mono {ρ ρ' : Ren} (h : ρ.le ρ') : ∀ (v : List V) (x : List Value), VRL ρ v x → VRL ρ' v x
  | [], x, hx => by simpa [VRL] using hx
  | v :: vs, l, hx => by
    simp only [VRL] at hx ⊢
    obtain ⟨x, xs, e, h1, h2⟩ := hx
    exact ⟨x, xs, e, VR.mono h v x h1, VRL.mono h vs xs h2⟩
end
mutual
theorem VR.flat {ρ ρ' : Ren} : ∀ (v : V) (x : Value), v.flat = true → VR ρ v x → VR ρ' v x
  | .bool a, x, _, hx => by simpa [VR] using hx
  | .int k n, x, _, hx => by simpa [VR] using hx
  | .str s, x, _, hx => by simpa [VR] using hx
  | .nilp, x, _, hx => by simpa [VR] using hx
  | .ptr b o, x, hf, hx => by simp [V.flat] at hf
  | .nils, x, _, hx => by simpa [VR] using hx
  | .slice b o l cp, x, hf, hx => by simp [V.flat] at hf
  | .nilm, x, _, hx => by simpa [VR] using hx
  | .map b, x, hf, hx => by simp [V.flat] at hf
  | .nilf, x, _, hx => by simpa [VR] using hx
  | .fn f a b, x, hf, hx => by
    simp only [V.flat, Bool.and_eq_true] at hf
    simp only [VR] at hx ⊢
    obtain ⟨f', a', b', e, hff, ha, hb⟩ := hx
    refine ⟨f', a', b', e, ?_, VRL.flat a _ hf.2.1 ha, VRL.flat b _ hf.2.2 hb⟩
    cases f with
    | yield l => simp at hf
    | _ => exact hff
  | .nili, x, _, hx => by simpa [VR] using hx
  | .iface t v, x, hf, hx => by
    simp only [V.flat] at hf
    simp only [VR] at hx ⊢
    obtain ⟨y, e, hv⟩ := hx; exact ⟨y, e, VR.flat v y hf hv⟩
  | .agg cs, x, hf, hx => by
    simp only [V.flat] at hf
    simp only [VR] at hx ⊢
    obtain ⟨a, e, ha⟩ := hx; exact ⟨a, e, VRL.flat cs _ hf ha⟩
  | .tuple cs, x, hf, hx => by
    simp only [V.flat] at hf
    simp only [VR] at hx ⊢
    obtain ⟨a, e, ha⟩ := hx; exact ⟨a, e, VRL.flat cs _ hf ha⟩
theorem VRL.flat {ρ ρ' : Ren} : ∀ (v : List V) (x : List Value), V.flatL v = true → VRL ρ v x → VRL ρ' v x
  | [], x, _, hx => by simpa [VRL] using hx
  | v :: vs, l, hf, hx => by
    simp only [V.flatL, Bool.and_eq_true] at hf
    simp only [VRL] at hx ⊢
    obtain ⟨x, xs, e, h1, h2⟩ := hx
    exact ⟨x, xs, e, VR.flat v x hf.1 h1, VRL.flat vs xs hf.2 h2⟩
end

/-! ### lists of values -/
theorem VRL.length {ρ : Ren} : ∀ {v : List V} {x : List Value}, VRL ρ v x → x.length = v.length
  | [], x, h => by simp only [VRL] at h; simp [h]
  | v :: vs, l, h => by
    simp only [VRL] at h
    obtain ⟨x, xs, rfl, _, h2⟩ := h
    simp [VRL.length h2]
theorem VRL.get {ρ : Ren} : ∀ {vs : List V} {xs : List Value}, VRL ρ vs xs → ∀ {i : Nat} {v : V}, vs[i]? = some v → ∃ x, xs[i]? = some x ∧ VR ρ v x
  | [], xs, _, i, v, hv => by simp at hv
  | u :: vs, l, h, i, v, hv => by
    simp only [VRL] at h
    obtain ⟨x, xs, rfl, h1, h2⟩ := h
    cases i with
    | zero => simp at hv; subst hv; exact ⟨x, rfl, h1⟩
    | succ i => simp at hv; obtain ⟨y, hy, hr⟩ := VRL.get h2 hv; exact ⟨y, by simpa using hy, hr⟩
theorem VRL.of_get {ρ : Ren} : ∀ {vs : List V} {xs : List Value}, xs.length = vs.length → (∀ (i : Nat) (v : V), vs[i]? = some v → ∃ x : Value, xs[i]? = some x ∧ VR ρ v x) → VRL ρ vs xs
  | [], xs, hl, _ => by simp only [VRL]; exact List.length_eq_zero_iff.1 (by simpa using hl)
  | v :: vs, xs, hl, h => by
    cases xs with
    | nil => simp at hl
    | cons x xs =>
      simp only [VRL]
      obtain ⟨y, hy, hr⟩ := h 0 v rfl
      simp at hy; subst hy
      exact ⟨x, xs, rfl, hr, VRL.of_get (by simpa using hl) fun i u hu => by obtain ⟨y, hy, hr⟩ := h (i + 1) u (by simpa using hu); exact ⟨y, by simpa using hy, hr⟩⟩
theorem VRL.append {ρ : Ren} : ∀ {a b : List V} {x y : List Value}, VRL ρ a x → VRL ρ b y → VRL ρ (a ++ b) (x ++ y)
  | [], b, x, y, ha, hb => by simp only [VRL] at ha; subst ha; simpa using hb
  | v :: a, b, l, y, ha, hb => by
    simp only [VRL] at ha
    obtain ⟨x, xs, rfl, h1, h2⟩ := ha
    simp only [List.cons_append, VRL]
    exact ⟨x, xs ++ y, rfl, h1, VRL.append h2 hb⟩
theorem VRL.nil {ρ : Ren} : VRL ρ [] [] := by simp [VRL]
theorem VRL.cons {ρ : Ren} {v : V} {x : Value} {vs : List V} {xs : List Value} (h : VR ρ v x) (hs : VRL ρ vs xs) : VRL ρ (v :: vs) (x :: xs) := by
  simp only [VRL]; exact ⟨x, xs, rfl, h, hs⟩
theorem VRL.nil_inv {ρ : Ren} {l : List Value} (h : VRL ρ [] l) : l = [] := by simpa [VRL] using h
theorem VRL.cons_inv {ρ : Ren} {v : V} {vs : List V} {l : List Value} (h : VRL ρ (v :: vs) l) : ∃ x xs, l = x :: xs ∧ VR ρ v x ∧ VRL ρ vs xs := by simpa only [VRL] using h
theorem VRL.sub {ρ : Ren} {vs : List V} {xs : List Value} (h : VRL ρ vs xs) (o n : Nat) : VRL ρ ((vs.drop o).take n) ((xs.drop o).take n) := by
  refine VRL.of_get (by simp [VRL.length h]) fun i v hv => ?_
  by_cases hi : i < n
  · rw [List.getElem?_take, if_pos hi, List.getElem?_drop] at hv
    obtain ⟨x, hx, hr⟩ := VRL.get h hv
    exact ⟨x, by rw [List.getElem?_take, if_pos hi, List.getElem?_drop]; exact hx, hr⟩
  · rw [List.getElem?_take, if_neg hi] at hv; cases hv

/-! ### the cells of a value; constants -/
theorem VR.cells {ρ : Ren} {v : V} {x : Value} (h : VR ρ v x) : VRL ρ (cells v) x.cells.toList := by
  cases v <;> simp only [VR] at h <;> simp only [Ev.cells]
  case agg cs => obtain ⟨a, rfl, ha⟩ := h; exact ha
  all_goals first
    | (subst h; exact VRL.cons (by simp [VR]) VRL.nil)
    | skip
  case str s => obtain ⟨b, rfl, hb⟩ := h; exact VRL.cons (by simp [VR]; exact hb) VRL.nil
  case ptr => obtain ⟨c, s, w, hr, rfl⟩ := h; exact VRL.cons (by simp only [VR]; exact ⟨c, s, w, hr, rfl⟩) VRL.nil
  case slice => obtain ⟨c, s, w, a, cp', hr, rfl, rest⟩ := h; exact VRL.cons (by simp only [VR]; exact ⟨c, s, w, a, cp', hr, rfl, rest⟩) VRL.nil
  case map => obtain ⟨c, s, w, hr, rfl⟩ := h; exact VRL.cons (by simp only [VR]; exact ⟨c, s, w, hr, rfl⟩) VRL.nil
  case fn => obtain ⟨f', a', b', rfl, rest⟩ := h; exact VRL.cons (by simp only [VR]; exact ⟨f', a', b', rfl, rest⟩) VRL.nil
  case iface => obtain ⟨y, rfl, rest⟩ := h; exact VRL.cons (by simp only [VR]; exact ⟨y, rfl, rest⟩) VRL.nil
  case tuple => obtain ⟨a, rfl, rest⟩ := h; exact VRL.cons (by simp only [VR]; exact ⟨a, rfl, rest⟩) VRL.nil
theorem VR.one {ρ : Ren} {v : V} {x : Value} (h : VR ρ v x) (h1 : one v = true) : x.oneCell' = true := by
  cases v <;> simp only [VR] at h <;> simp [Ev.one] at h1
  all_goals first
    | (subst h; rfl)
    | skip
  case str s => obtain ⟨b, rfl, hb⟩ := h; rfl
  case ptr => obtain ⟨c, s, w, hr, rfl⟩ := h; rfl
  case slice => obtain ⟨c, s, w, a, cp', hr, rfl, rest⟩ := h; rfl
  case map => obtain ⟨c, s, w, hr, rfl⟩ := h; rfl
  case fn => obtain ⟨f', a', b', rfl, rest⟩ := h; rfl
  case iface => obtain ⟨y, rfl, rest⟩ := h; rfl
theorem ofC_VR {ρ : Ren} {x : Value} {v : V} (h : ofC x = some v) : VR ρ v x := by
  unfold ofC at h
  split at h <;> cases h <;> simp [VR]
theorem ofCs_VR {ρ : Ren} : ∀ {xs : List Value} {vs : List V}, ofCs xs = some vs → VRL ρ vs xs
  | [], vs, h => by simp [ofCs] at h; subst h; exact VRL.nil
  | x :: xs, vs, h => by
    unfold ofCs at h
    split at h
    · rename_i u hu
      split at h
      · rename_i m hm; cases h; exact VRL.cons (ofC_VR hu) (ofCs_VR hm)
      · cases h
    · cases h
theorem ofV_VR {ρ : Ren} {x : Value} {v : V} (h : ofV x = some v) : VR ρ v x := by
  unfold ofV at h
  split at h
  · rename_i cs
    cases hc : ofCs cs.toList with
    | none => simp [hc] at h
    | some l => simp [hc] at h; subst h; simp only [VR]; exact ⟨cs, rfl, ofCs_VR hc⟩
  · rename_i cs
    cases hc : ofCs cs.toList with
    | none => simp [hc] at h
    | some l => simp [hc] at h; subst h; simp only [VR]; exact ⟨cs, rfl, ofCs_VR hc⟩
  · exact ofC_VR h

/-! ### slots -/
def TR (ρ : Ren) (tm : T V) (tmps : Array Value) : Prop := ∀ i v, tm.get i = some v → ∃ x, tmps[i]? = some x ∧ VR ρ v x
theorem TR.mono {ρ ρ' : Ren} (h : ρ.le ρ') {tm : T V} {tmps : Array Value} (ht : TR ρ tm tmps) : TR ρ' tm tmps := fun i v hv => let ⟨x, hx, hr⟩ := ht i v hv; ⟨x, hx, hr.mono h⟩
theorem TR.put {ρ : Ren} {tm : T V} {tmps : Array Value} (ht : TR ρ tm tmps) {d : Nat} {v : V} {x : Value} (hd : d < tmps.size) (hv : VR ρ v x) : TR ρ (tm.put (some v) d) (tmps.setIfInBounds d x) := by
  intro i u hu
  rw [T.get_put] at hu
  by_cases e : i = d
  · subst e; rw [if_pos rfl] at hu; cases hu; exact ⟨x, by simp [hd], hv⟩
  · rw [if_neg e] at hu
    obtain ⟨y, hy, hr⟩ := ht i u hu
    exact ⟨y, by rw [Array.getElem?_setIfInBounds_ne (fun h => e h.symm)]; exact hy, hr⟩

/-! ### objects -/
inductive MR (ρ : Ren) : List (V × V) → List MapEntry → Prop
  | nil : MR ρ [] []
  | cons {k v : V} {e : MapEntry} {es : List (V × V)} {l : List MapEntry} (hk : VR ρ k e.key) (hv : VR ρ v e.val) (h : MR ρ es l) : MR ρ ((k, v) :: es) (e :: l)
theorem MR.mono {ρ ρ' : Ren} (h : ρ.le ρ') {es : List (V × V)} {l : List MapEntry} (hm : MR ρ es l) : MR ρ' es l := by
  induction hm with
  | nil => exact .nil
  | cons hk hv _ ih => exact .cons (hk.mono h) (hv.mono h) ih

/-- the stamps of a map's entries: each once, each behind the clock -/
def Born (l : List MapEntry) (c : Nat) : Prop := (l.map (·.born)).Nodup ∧ ∀ e ∈ l, e.born < c
theorem Born.nil {c : Nat} : Born [] c := ⟨List.nodup_nil, fun e h => (by cases h)⟩
theorem Born.push {l : List MapEntry} {c : Nat} (h : Born l c) (k v : Value) : Born (l ++ [⟨k, v, c⟩]) (c + 1) := by
  refine ⟨?_, fun e he => ?_⟩
  · rw [List.map_append, List.nodup_append]
    refine ⟨h.1, by simp, fun a ha b hb => ?_⟩
    obtain ⟨e, he, rfl⟩ := List.mem_map.1 ha
    simp at hb; subst hb
    have := h.2 e he; omega
  · rcases List.mem_append.1 he with he | he
    · have := h.2 e he; omega
    · simp at he; subst he; simp
theorem Born.modify {l : List MapEntry} {c : Nat} (h : Born l c) (j : Nat) (k v : Value) : Born (l.modify j fun e => { e with key := k, val := v }) c := by
  have e1 : ∀ (l : List MapEntry) (j : Nat), (l.modify j fun e => { e with key := k, val := v }).map (·.born) = l.map (·.born) := by
    intro l
    induction l with
    | nil => intro j; cases j <;> simp
    | cons x l ih => intro j; cases j with
      | zero => simp
      | succ j => simp only [List.modify_succ_cons, List.map_cons, ih]
  refine ⟨by rw [e1]; exact h.1, fun e he => ?_⟩
  have : e.born ∈ (l.modify j fun e => { e with key := k, val := v }).map (·.born) := List.mem_map_of_mem he
  rw [e1] at this
  obtain ⟨x, hx, hxe⟩ := List.mem_map.1 this
  rw [← hxe]; exact h.2 x hx
theorem Born.erase {l : List MapEntry} {c : Nat} (h : Born l c) (j : Nat) : Born (l.eraseIdx j) c :=
  ⟨h.1.sublist ((List.eraseIdx_sublist l j).map _), fun e he => h.2 e ((List.eraseIdx_sublist l j).subset he)⟩
/-- what is known of a row of cells -/
structure RowR (ρ : Ren) (n : Nat) (cs : T V) (w : Nat) (ro : Bool) (fz s : Nat) (c : Array Value) (fr : Nat × Nat) : Prop where
  fits : s + n ≤ c.size
  exact_ : w = 0 → ro = false → s = 0 ∧ c.size = n
  cell : ∀ i v, i < n → cs.get i = some v → ∃ x, c[s + i]? = some x ∧ VR ρ v x
  free : ro = false → fr.2 ≤ s + (fz - 1) ∨ (fz = 0 ∧ c.size ≤ fr.1)
def OR (ρ : Ren) (s : Nat) (w : Wl) : Ob → Go.Obj → Prop
  | .row n cs e wl ro fz, ob => wl = w.1 ∧ ∃ c fr, ob = .cells c e fr ∧ RowR ρ n cs wl ro fz s c fr ∧ (w.1 ≠ 0 → c.size = w.2)
  | .map es, ob => ∃ l clock, ob = .map l clock ∧ MR ρ es l.toList ∧ Born l.toList clock
  | .siter rest pos, ob => s = 0 ∧ ∃ b, ob = .stringIter b pos ∧ pos ≤ b.size ∧ (bytesOf b).drop pos = rest
  | .loop st pend tm n ps asg body d, ob => ∃ l : Loop, ob = .loop l ∧ l.state = st ∧ l.pending = pend ∧ l.params.toList = ps ∧ l.assign = asg ∧ l.body = body ∧ TR ρ tm l.tmps ∧ (∃ c s' w', ρ d = some (c, s', w') ∧ l.defers = c) ∧
      codeBnd l.tmps.size n asg = true ∧ codeBnd l.tmps.size n body = true ∧ ∀ p ∈ ps, p < l.tmps.size
  | .defs, ob => ob = .deferred (some [])
theorem RowR.mono {ρ ρ' : Ren} (h : ρ.le ρ') {n : Nat} {cs : T V} {w : Nat} {ro : Bool} {fz s : Nat} {c : Array Value} {fr : Nat × Nat} (hr : RowR ρ n cs w ro fz s c fr) : RowR ρ' n cs w ro fz s c fr :=
  ⟨hr.fits, hr.exact_, fun i v hi hv => let ⟨x, hx, hv⟩ := hr.cell i v hi hv; ⟨x, hx, hv.mono h⟩, hr.free⟩
theorem OR.mono {ρ ρ' : Ren} (h : ρ.le ρ') {s : Nat} {w : Wl} {o : Ob} {ob : Go.Obj} (ho : OR ρ s w o ob) : OR ρ' s w o ob := by
  cases o with
  | row n cs e wl ro fz => obtain ⟨hw, c, fr, e', hr, hz⟩ := ho; exact ⟨hw, c, fr, e', hr.mono h, hz⟩
  | map es => obtain ⟨l, clock, e, hm, hb⟩ := ho; exact ⟨l, clock, e, hm.mono h, hb⟩
  | siter rest pos => exact ho
  | loop st pend tm n ps asg body d =>
    obtain ⟨l, e, h1, h2, h3, h4, h5, ht, ⟨c, s', w', hd, hc⟩, hb⟩ := ho
    exact ⟨l, e, h1, h2, h3, h4, h5, ht.mono h, ⟨c, s', w', h _ _ hd, hc⟩, hb⟩
  | defs => exact ho
/-- a block that is only read -/
def Ob.ro : Ob → Bool
  | .row _ _ _ _ ro _ => ro
  | _ => false

/-! ### heaps -/
structure HR (P : Program) (ρ : Ren) (h : H) (w : World) : Prop where
  dom : ∀ b c s wl, ρ b = some (c, s, wl) → b < h.next ∧ c < w.heap.size
  obj : ∀ b c s wl o, ρ b = some (c, s, wl) → h.get b = some o → ∃ ob, w.heap[c]? = some ob ∧ OR ρ s wl o ob
  inj : ∀ b b' c s wl s' wl' o o', ρ b = some (c, s, wl) → ρ b' = some (c, s', wl') → h.get b = some o → h.get b' = some o' → b = b' ∨ (o.ro = true ∧ o'.ro = true)
  glob : ∀ g, g < P.globals.size → ρ g = some (g, 0, (0, 0))
/-- from one state to a later one: what was not ours, or only read, is as it was -/
structure Mv (ρ : Ren) (h : H) (w : World) (ρ' : Ren) (h' : H) (w' : World) : Prop where
  le : ρ.le ρ'
  next : h.next ≤ h'.next
  size : w.heap.size ≤ w'.heap.size
  keep : ∀ c, c < w.heap.size → (∀ b s wl o, ρ b = some (c, s, wl) → h.get b = some o → o.ro = true) → w'.heap[c]? = w.heap[c]?
  wr : ∀ b c s wl o, ρ' b = some (c, s, wl) → h'.get b = some o → o.ro = false → c < w.heap.size → ∃ b0 s0 wl0 o0, ρ b0 = some (c, s0, wl0) ∧ h.get b0 = some o0 ∧ o0.ro = false
  os : w'.os = w.os ∧ w'.output = w.output ∧ w'.tape = w.tape
theorem Mv.refl (ρ : Ren) (h : H) (w : World) : Mv ρ h w ρ h w :=
  ⟨.refl _, Nat.le_refl _, Nat.le_refl _, fun _ _ _ => rfl, fun b _ s wl o hr ho hf _ => ⟨b, s, wl, o, hr, ho, hf⟩, rfl, rfl, rfl⟩
theorem Mv.trans {ρ ρ1 ρ2 : Ren} {h h1 h2 : H} {w w1 w2 : World} (a : Mv ρ h w ρ1 h1 w1) (b : Mv ρ1 h1 w1 ρ2 h2 w2) : Mv ρ h w ρ2 h2 w2 := by
  refine ⟨a.le.trans b.le, Nat.le_trans a.next b.next, Nat.le_trans a.size b.size, fun c hc hro => ?_, fun x c s wl o hr ho hf hc => ?_, ?_⟩
  · rw [b.keep c (Nat.lt_of_lt_of_le hc a.size) fun x s wl o hr ho => ?_, a.keep c hc hro]
    cases hf : o.ro with
    | true => rfl
    | false =>
      obtain ⟨b0, s0, wl0, o0, h1, h2, h3⟩ := a.wr x c s wl o hr ho hf hc
      rw [hro b0 s0 wl0 o0 h1 h2] at h3; cases h3
  · obtain ⟨b0, s0, wl0, o0, h1, h2, h3⟩ := b.wr x c s wl o hr ho hf (Nat.lt_of_lt_of_le hc a.size)
    exact a.wr b0 c s0 wl0 o0 h1 h2 h3 hc
  · exact ⟨b.os.1.trans a.os.1, b.os.2.1.trans a.os.2.1, b.os.2.2.trans a.os.2.2⟩

/-- what a call may leave of the old blocks -/
structure Ext (h h' : H) : Prop where
  next : h.next ≤ h'.next
  lo : h'.lo ≤ h.lo
  same : ∀ b, b < h.next → b < h'.lo → h'.get b = h.get b
theorem Ext.refl (h : H) : Ext h h := ⟨Nat.le_refl _, Nat.le_refl _, fun _ _ _ => rfl⟩
theorem Ext.trans {a b c : H} (h : Ext a b) (k : Ext b c) : Ext a c :=
  ⟨Nat.le_trans h.next k.next, Nat.le_trans k.lo h.lo, fun x hx hl => (k.same x (Nat.lt_of_lt_of_le hx h.next) hl).trans (h.same x hx (Nat.lt_of_lt_of_le hl k.lo))⟩
theorem Ext.new (h : H) (o : Ob) : Ext h (h.new o) := ⟨Nat.le_succ _, Nat.le_refl _, fun b hb _ => by rw [H.get_new, if_neg (by omega)]⟩
theorem Ext.put (h : H) (b : Nat) (o : Option Ob) : Ext h (h.put b o) :=
  ⟨Nat.le_refl _, by simp; omega, fun x _ hl => by rw [H.get_put, if_neg]; simp at hl; omega⟩

/-! ### a new block -/
def Ren.add (ρ : Ren) (b : Nat) (x : Nat × Nat × Wl) : Ren := fun y => if y = b then some x else ρ y
theorem Ren.add_le {ρ : Ren} {b : Nat} (x : Nat × Nat × Wl) (hb : ρ b = none) : ρ.le (ρ.add b x) := fun y z h => by
  unfold Ren.add
  by_cases e : y = b
  · subst e; rw [hb] at h; cases h
  · rw [if_neg e]; exact h
theorem Ren.add_same {ρ : Ren} {b : Nat} {x : Nat × Nat × Wl} : ρ.add b x b = some x := by simp [Ren.add]
theorem Ren.add_other {ρ : Ren} {b y : Nat} {x : Nat × Nat × Wl} (h : y ≠ b) : ρ.add b x y = ρ y := by simp [Ren.add, h]
def _root_.Go.World.app (w : World) (o : Go.Obj) : World := { w with heap := w.heap.push o }
theorem heap_app_old {w : World} {o : Go.Obj} {c : Nat} (h : c < w.heap.size) : (w.app o).heap[c]? = w.heap[c]? := by
  simp [World.app, Array.getElem?_push, Nat.ne_of_lt h]
theorem heap_app_new {w : World} {o : Go.Obj} : (w.app o).heap[w.heap.size]? = some o := by simp [World.app]
theorem HR.none_next {P : Program} {ρ : Ren} {h : H} {w : World} (hr : HR P ρ h w) : ρ h.next = none := by
  cases e : ρ h.next with
  | none => rfl
  | some x => obtain ⟨c, s, wl⟩ := x; have := (hr.dom _ _ _ _ e).1; omega
/-- a block that is made: the abstract heap h' has it as b already, or has it now -/
theorem HR.alloc {P : Program} {ρ : Ren} {h h' : H} {w : World} (hr : HR P ρ h w) {b : Nat} {o : Ob} {ob : Go.Obj} {wl : Wl} (hb : ρ b = none) (hbn : b < h'.next) (hn : h.next ≤ h'.next)
    (hg : h'.get b = some o) (hold : ∀ y, ρ y ≠ none → h'.get y = h.get y) (ho : OR (ρ.add b (w.heap.size, 0, wl)) 0 wl o ob) :
    HR P (ρ.add b (w.heap.size, 0, wl)) h' (w.app ob) := by
  refine ⟨fun y c s wl' hy => ?_, fun y c s wl' o' hy hy' => ?_, fun y y' c s wl1 s' wl' o1 o2 h1 h2 h3 h4 => ?_, fun g hgl => ?_⟩
  · by_cases e : y = b
    · subst e; rw [Ren.add_same] at hy; cases hy; exact ⟨hbn, by simp [World.app]⟩
    · rw [Ren.add_other e] at hy
      have := hr.dom _ _ _ _ hy
      exact ⟨by omega, by simp [World.app]; omega⟩
  · by_cases e : y = b
    · subst e; rw [Ren.add_same] at hy; cases hy; rw [hg] at hy'; cases hy'; exact ⟨ob, heap_app_new, ho⟩
    · rw [Ren.add_other e] at hy
      rw [hold y (by rw [hy]; simp)] at hy'
      obtain ⟨ob', h1, h2⟩ := hr.obj _ _ _ _ _ hy hy'
      exact ⟨ob', by rw [heap_app_old (hr.dom _ _ _ _ hy).2]; exact h1, h2.mono (Ren.add_le _ hb)⟩
  · by_cases e : y = b <;> by_cases e' : y' = b
    · exact .inl (e.trans e'.symm)
    · subst e; rw [Ren.add_same] at h1; cases h1; rw [Ren.add_other e'] at h2
      have := (hr.dom _ _ _ _ h2).2; omega
    · subst e'; rw [Ren.add_same] at h2; cases h2; rw [Ren.add_other e] at h1
      have := (hr.dom _ _ _ _ h1).2; omega
    · rw [Ren.add_other e] at h1; rw [Ren.add_other e'] at h2
      rw [hold y (by rw [h1]; simp)] at h3; rw [hold y' (by rw [h2]; simp)] at h4
      exact hr.inj _ _ _ _ _ _ _ _ _ h1 h2 h3 h4
  · have := hr.glob g hgl
    rw [Ren.add_other (fun e => by subst e; rw [hb] at this; cases this)]; exact this
theorem Mv.alloc {ρ : Ren} {h h' : H} {w : World} {b : Nat} {ob : Go.Obj} {wl : Wl} (hb : ρ b = none) (hn : h.next ≤ h'.next)
    (hold : ∀ y, ρ y ≠ none → h'.get y = h.get y) : Mv ρ h w (ρ.add b (w.heap.size, 0, wl)) h' (w.app ob) := by
  refine ⟨Ren.add_le _ hb, hn, by simp [World.app], fun c hc _ => heap_app_old hc, fun y c s wl' o hy hy' hf hc => ?_, rfl, rfl, rfl⟩
  · by_cases e : y = b
    · subst e; rw [Ren.add_same] at hy; cases hy; omega
    · rw [Ren.add_other e] at hy; rw [hold y (by rw [hy]; simp)] at hy'; exact ⟨y, s, wl', o, hy, hy', hf⟩
/-- what is new among the blocks that are known -/
def Nw (ρ ρ' : Ren) (S : Nat → Prop) : Prop := ∀ b, ρ b = none → ρ' b ≠ none → S b
theorem Nw.refl (ρ : Ren) (S : Nat → Prop) : Nw ρ ρ S := fun _ h k => absurd h k
theorem Nw.add {ρ : Ren} {b : Nat} {x : Nat × Nat × Wl} {S : Nat → Prop} (h : S b) : Nw ρ (ρ.add b x) S := fun y hy hy' => by
  by_cases e : y = b
  · subst e; exact h
  · rw [Ren.add_other e] at hy'; exact absurd hy hy'
theorem Nw.trans {ρ ρ1 ρ2 : Ren} {n n1 : Nat} (a : Nw ρ ρ1 fun b => n ≤ b) (k : Nw ρ1 ρ2 fun b => n1 ≤ b) (hn : n ≤ n1) : Nw ρ ρ2 fun b => n ≤ b := fun b h h2 => by
  cases e : ρ1 b with
  | none => exact Nat.le_trans hn (k b e h2)
  | some x => exact a b h (by rw [e]; simp)

/-! ### a block of ours that is written -/
def _root_.Go.World.putB (w : World) (c : Nat) (o : Go.Obj) : World := { w with heap := w.heap.setIfInBounds c o }
theorem heap_putB_same {w : World} {o : Go.Obj} {c : Nat} (h : c < w.heap.size) : (w.putB c o).heap[c]? = some o := by simp [World.putB, h]
theorem heap_putB_other {w : World} {o : Go.Obj} {c d : Nat} (h : d ≠ c) : (w.putB c o).heap[d]? = w.heap[d]? := by simp [World.putB, Array.getElem?_setIfInBounds_ne (Ne.symm h)]
@[simp] theorem size_putB {w : World} {o : Go.Obj} {c : Nat} : (w.putB c o).heap.size = w.heap.size := by simp [World.putB]
theorem HR.store {P : Program} {ρ : Ren} {h : H} {w : World} (hr : HR P ρ h w) {b c s : Nat} {wl : Wl} {o o' : Ob} {ob' : Go.Obj} (hb : ρ b = some (c, s, wl)) (hg : h.get b = some o) (hro : o.ro = false)
    (ho : OR ρ s wl o' ob') : HR P ρ (h.put b (some o')) (w.putB c ob') := by
  have hc := (hr.dom _ _ _ _ hb).2
  have other : ∀ y d s' wl' oy, ρ y = some (d, s', wl') → h.get y = some oy → y ≠ b → d ≠ c := fun y d s' wl' oy hy hgy hne e => by
    subst e
    rcases hr.inj _ _ _ _ _ _ _ _ _ hy hb hgy hg with e | e
    · exact hne e
    · rw [hro] at e; cases e.2
  refine ⟨fun y d s' wl' hy => by simpa using hr.dom _ _ _ _ hy, fun y d s' wl' oy hy hgy => ?_, fun y y' d s1 wl1 s2 wl2 o1 o2 h1 h2 h3 h4 => ?_, hr.glob⟩
  · rw [H.get_put] at hgy
    by_cases e : y = b
    · subst e; rw [if_pos rfl] at hgy; cases hgy; rw [hb] at hy; cases hy; exact ⟨ob', heap_putB_same hc, ho⟩
    · rw [if_neg e] at hgy
      obtain ⟨ob, h1, h2⟩ := hr.obj _ _ _ _ _ hy hgy
      exact ⟨ob, by rw [heap_putB_other (other _ _ _ _ _ hy hgy e)]; exact h1, h2⟩
  · rw [H.get_put] at h3 h4
    by_cases e : y = b <;> by_cases e' : y' = b
    · exact .inl (e.trans e'.symm)
    · subst e; rw [hb] at h1; cases h1; rw [if_neg e'] at h4; exact absurd rfl (other _ _ _ _ _ h2 h4 e')
    · subst e'; rw [hb] at h2; cases h2; rw [if_neg e] at h3; exact absurd rfl (other _ _ _ _ _ h1 h3 e)
    · rw [if_neg e] at h3; rw [if_neg e'] at h4; exact hr.inj _ _ _ _ _ _ _ _ _ h1 h2 h3 h4
theorem Mv.store {ρ : Ren} {h : H} {w : World} {b c s : Nat} {wl : Wl} {o o' : Ob} {ob' : Go.Obj} (hb : ρ b = some (c, s, wl)) (hg : h.get b = some o) (hro : o.ro = false) :
    Mv ρ h w ρ (h.put b (some o')) (w.putB c ob') := by
  refine ⟨.refl _, Nat.le_refl _, by simp, fun d hd hk => ?_, fun y d s' wl' oy hy hgy hf _ => ?_, rfl, rfl, rfl⟩
  · refine heap_putB_other fun e => ?_
    subst e
    rw [hk _ _ _ _ hb hg] at hro; cases hro
  · rw [H.get_put] at hgy
    by_cases e : y = b
    · subst e; rw [hb] at hy; cases hy; exact ⟨y, s, wl, o, hb, hg, hro⟩
    · rw [if_neg e] at hgy; exact ⟨y, s', wl', oy, hy, hgy, hf⟩
/-- a block dies -/
theorem HR.kill {P : Program} {ρ : Ren} {h : H} {w : World} (hr : HR P ρ h w) (b : Nat) : HR P ρ (h.put b none) w := by
  refine ⟨hr.dom, fun y d s' wl' oy hy hgy => ?_, fun y y' d s1 wl1 s2 wl2 o1 o2 h1 h2 h3 h4 => ?_, hr.glob⟩
  · rw [H.get_put] at hgy; split at hgy
    · cases hgy
    · exact hr.obj _ _ _ _ _ hy hgy
  · rw [H.get_put] at h3 h4
    split at h3
    · cases h3
    · split at h4
      · cases h4
      · exact hr.inj _ _ _ _ _ _ _ _ _ h1 h2 h3 h4
theorem Mv.kill (ρ : Ren) (h : H) (w : World) (b : Nat) : Mv ρ h w ρ (h.put b none) w := by
  refine ⟨.refl _, Nat.le_refl _, Nat.le_refl _, fun _ _ _ => rfl, fun y d s' wl' oy hy hgy hf _ => ?_, rfl, rfl, rfl⟩
  rw [H.get_put] at hgy; split at hgy
  · cases hgy
  · exact ⟨y, s', wl', oy, hy, hgy, hf⟩
/-- a block is taken over by a new one: the old one is dead -/
theorem HR.take {P : Program} {ρ : Ren} {h : H} {w : World} (hr : HR P ρ h w) {b c s s2 : Nat} {wl wl2 : Wl} {o o2 : Ob} {ob2 : Go.Obj} (hb : ρ b = some (c, s, wl)) (hg : h.get b = some o) (hro : o.ro = false)
    (ho : OR (ρ.add h.next (c, s2, wl2)) s2 wl2 o2 ob2) : HR P (ρ.add h.next (c, s2, wl2)) ((h.put b none).new o2) (w.putB c ob2) := by
  have hn := hr.none_next
  have hc := (hr.dom _ _ _ _ hb).2
  have hbn : b ≠ h.next := fun e => by have := (hr.dom _ _ _ _ hb).1; omega
  have get : ∀ y, ((h.put b none).new o2).get y = if y = h.next then some o2 else if y = b then none else h.get y := fun y => by rw [H.get_new, H.get_put]; rfl
  have other : ∀ y d s' wl' oy, ρ y = some (d, s', wl') → h.get y = some oy → y ≠ b → d ≠ c := fun y d s' wl' oy hy hgy hne e => by
    subst e
    rcases hr.inj _ _ _ _ _ _ _ _ _ hy hb hgy hg with e | e
    · exact hne e
    · rw [hro] at e; cases e.2
  refine ⟨fun y d s' wl' hy => ?_, fun y d s' wl' oy hy hgy => ?_, fun y y' d s1 wl1 s2 wl2 o1 o2 h1 h2 h3 h4 => ?_, fun g hgl => ?_⟩
  · by_cases e : y = h.next
    · subst e; rw [Ren.add_same] at hy; cases hy; simp; exact hc
    · rw [Ren.add_other e] at hy; have := hr.dom _ _ _ _ hy; simp; omega
  · rw [get] at hgy
    by_cases e : y = h.next
    · subst e; rw [Ren.add_same] at hy; cases hy; rw [if_pos rfl] at hgy; cases hgy; exact ⟨ob2, heap_putB_same hc, ho⟩
    · rw [Ren.add_other e] at hy; rw [if_neg e] at hgy
      by_cases e' : y = b
      · rw [if_pos e'] at hgy; cases hgy
      · rw [if_neg e'] at hgy
        obtain ⟨ob, h1, h2⟩ := hr.obj _ _ _ _ _ hy hgy
        exact ⟨ob, by rw [heap_putB_other (other _ _ _ _ _ hy hgy e')]; exact h1, h2.mono (Ren.add_le _ hn)⟩
  · rw [get] at h3 h4
    by_cases e : y = h.next <;> by_cases e' : y' = h.next
    · exact .inl (e.trans e'.symm)
    · subst e; rw [Ren.add_same] at h1; cases h1; rw [Ren.add_other e'] at h2; rw [if_neg e'] at h4
      by_cases e2 : y' = b
      · rw [if_pos e2] at h4; cases h4
      · rw [if_neg e2] at h4; exact absurd rfl (other _ _ _ _ _ h2 h4 e2)
    · subst e'; rw [Ren.add_same] at h2; cases h2; rw [Ren.add_other e] at h1; rw [if_neg e] at h3
      by_cases e2 : y = b
      · rw [if_pos e2] at h3; cases h3
      · rw [if_neg e2] at h3; exact absurd rfl (other _ _ _ _ _ h1 h3 e2)
    · rw [Ren.add_other e] at h1; rw [Ren.add_other e'] at h2; rw [if_neg e] at h3; rw [if_neg e'] at h4
      split at h3
      · cases h3
      · split at h4
        · cases h4
        · exact hr.inj _ _ _ _ _ _ _ _ _ h1 h2 h3 h4
  · have := hr.glob g hgl
    rw [Ren.add_other (fun e => by subst e; rw [hn] at this; cases this)]; exact this
theorem Mv.take {ρ : Ren} {h : H} {w : World} (hn : ρ h.next = none) {b c s s2 : Nat} {wl wl2 : Wl} {o o2 : Ob} {ob2 : Go.Obj} (hb : ρ b = some (c, s, wl)) (hg : h.get b = some o) (hro : o.ro = false) :
    Mv ρ h w (ρ.add h.next (c, s2, wl2)) ((h.put b none).new o2) (w.putB c ob2) := by
  refine ⟨Ren.add_le _ hn, by simp, by simp, fun d hd hk => ?_, fun y d s' wl' oy hy hgy hf _ => ?_, rfl, rfl, rfl⟩
  · refine heap_putB_other fun e => ?_
    subst e
    rw [hk _ _ _ _ hb hg] at hro; cases hro
  · rw [H.get_new, H.get_put] at hgy
    by_cases e : y = h.next
    · subst e; rw [Ren.add_same] at hy; cases hy; exact ⟨b, s, wl, o, hb, hg, hro⟩
    · rw [Ren.add_other e] at hy; rw [if_neg (by exact e)] at hgy
      split at hgy
      · cases hgy
      · exact ⟨y, s', wl', oy, hy, hgy, hf⟩
end Go.Ev
/-
  ENGINE, PART 4: operands, types, cells: what the model's small programs do, beside what the evaluator does.
-/
namespace Go.Ev
variable {P : Program}

/-! ### operands -/
noncomputable def opdV (tm : T V) : Operand → Option V
  | .tmp i => tm.get i
  | .const v => ofV v
  | .global g => some (.ptr g 0)
  | .func f => some (.fn (.func f) [] [])
theorem opdK_true {x : Operand} {tm : T V} {k : V → Bool} : opdK x tm k = true ↔ ∃ v, opdV tm x = some v ∧ k v = true := by
  cases x
  · exact og_true
  · exact og_true
  · exact ⟨fun h => ⟨_, rfl, h⟩, fun ⟨_, e, h⟩ => by cases e; exact h⟩
  · exact ⟨fun h => ⟨_, rfl, h⟩, fun ⟨_, e, h⟩ => by cases e; exact h⟩
noncomputable def opdsV (tm : T V) : List Operand → Option (List V)
  | [] => some []
  | x :: l => match opdV tm x with
    | some v => match opdsV tm l with
      | some vs => some (v :: vs)
      | none => none
    | none => none
theorem opdsK_true {l : List Operand} : ∀ {tm : T V} {k : List V → Bool}, opdsK l tm k = true ↔ ∃ vs, opdsV tm l = some vs ∧ k vs = true := by
  induction l with
  | nil => intro tm k; exact ⟨fun h => ⟨_, rfl, h⟩, fun ⟨_, e, h⟩ => by cases e; exact h⟩
  | cons x l ih =>
    intro tm k
    have h : opdsK (x :: l) tm k = opdK x tm fun v => opdsK l tm fun l => k (v :: l) := rfl
    rw [h, opdK_true]
    constructor
    · rintro ⟨v, hv, h2⟩
      obtain ⟨vs, hvs, h3⟩ := ih.1 h2
      exact ⟨v :: vs, by simp [opdsV, hv, hvs], h3⟩
    · rintro ⟨vs, hvs, h2⟩
      unfold opdsV at hvs
      split at hvs
      · rename_i v hv
        split at hvs
        · rename_i vs' hvs'; cases hvs; exact ⟨v, hv, ih.2 ⟨vs', hvs', h2⟩⟩
        · cases hvs
      · cases hvs
/-- the operands stand for what the slots hold -/
def OpsR (ρ : Ren) (tm : T V) (ev : Operand → Value) (l : List Operand) : Prop := ∀ x ∈ l, ∀ v, opdV tm x = some v → VR ρ v (ev x)
theorem OpsR.mono {ρ ρ' : Ren} (h : ρ.le ρ') {tm : T V} {ev : Operand → Value} {l : List Operand} (ho : OpsR ρ tm ev l) : OpsR ρ' tm ev l := fun x hx v hv => (ho x hx v hv).mono h
theorem OpsR.sub {ρ : Ren} {tm : T V} {ev : Operand → Value} {l m : List Operand} (ho : OpsR ρ tm ev l) (h : ∀ x ∈ m, x ∈ l) : OpsR ρ tm ev m := fun x hx => ho x (h x hx)
theorem OpsR.list {ρ : Ren} {tm : T V} {ev : Operand → Value} : ∀ {l : List Operand} {vs : List V}, OpsR ρ tm ev l → opdsV tm l = some vs → VRL ρ vs (l.map ev)
  | [], vs, _, h => by simp [opdsV] at h; subst h; exact VRL.nil
  | x :: l, vs, ho, h => by
    unfold opdsV at h
    split at h
    · rename_i v hv
      split at h
      · rename_i vs' hvs'; cases h
        exact VRL.cons (ho x (by simp) v hv) (OpsR.list (ho.sub fun y hy => by simp [hy]) hvs')
      · cases h
    · cases h

/-! ### types -/
theorem run_sizeT {t n : Nat} (h : sizeT P t = some n) (w : World) : (sizeOf t).run P w = .ok n w := by
  unfold sizeT at h; split at h
  · rename_i i hi; cases h; simp [sizeOf, typeInfo, Sem.run_bind, hi]
  · cases h
theorem info_sizeT {t n : Nat} (h : sizeT P t = some n) : (P.info? t).map (·.size) = some n := by
  unfold sizeT at h; split at h
  · rename_i i hi; cases h; simp [hi]
  · cases h
theorem run_und {t : Nat} {d : TypeDesc} (h : P.underlying t = some d) (w : World) : (underlying t).run P w = .ok d w := by simp [underlying, Sem.run_bind, h]
theorem run_aggT {t : Nat} {a : Bool} (h : aggT P t = some a) (w : World) : (isAgg t).run P w = .ok a w := by
  unfold aggT at h
  split at h <;> cases h
  · rename_i fs hu; simp [isAgg, Sem.run_bind, run_und hu]
  · rename_i n e hu; simp [isAgg, Sem.run_bind, run_und hu]
  · rename_i d hn1 hn2 hu
    simp only [isAgg, Sem.run_bind, run_und hu, Result.andThen_ok]
    rfl
theorem run_zeroT {t : Nat} {v : V} (h : zeroT P t = some v) : ∃ z, (∀ w, (zeroValue t).run P w = .ok z w) ∧ ofV z = some v := by
  unfold zeroT at h; split at h
  · rename_i i hi
    split at h
    · rename_i z hz; exact ⟨z, fun w => by simp [zeroValue, typeInfo, Sem.run_bind, hi, hz], h⟩
    · cases h
  · cases h
theorem zcells_zeroT {t : Nat} {l : List V} (h : zcells P t = some l) : ∃ v, zeroT P t = some v ∧ cells v = l := by
  unfold zcells at h
  split at h
  · rename_i cs hz; cases h; exact ⟨_, hz, rfl⟩
  · rename_i v hn hz; cases h; exact ⟨v, hz, by cases v <;> first | rfl | exact absurd rfl (hn _)⟩
  · cases h
theorem run_zcells {t : Nat} {l : List V} (h : zcells P t = some l) : ∃ z : Value, (∀ w, (zeroValue t).run P w = .ok z w) ∧ ∀ ρ, VRL ρ l z.cells.toList := by
  obtain ⟨v, hv, rfl⟩ := zcells_zeroT h
  obtain ⟨z, hz, ho⟩ := run_zeroT hv
  exact ⟨z, hz, fun ρ => (ofV_VR ho).cells⟩

/-! ### cells of a world -/
theorem addr_add (c o i : Nat) : (⟨c, o, none⟩ : Addr).add i = ⟨c, o + i, none⟩ := by
  unfold Addr.add; split
  · rename_i h; subst h; rfl
  · rfl
theorem cell_at {w : World} {c o : Nat} {arr : Array Value} {e : TypeId} {fr : Nat × Nat} {x : Value} (hh : w.heap[c]? = some (.cells arr e fr)) (hx : arr[o]? = some x) : w.cell? ⟨c, o, none⟩ = some x := by
  simp [World.cell?, hh, hx]
theorem run_loadCellsFrom_at {w : World} {c o : Nat} {arr : Array Value} {e : TypeId} {fr : Nat × Nat} (hh : w.heap[c]? = some (.cells arr e fr)) :
    ∀ (xs : List Value) (i : Nat) (acc : Array Value), (∀ (j : Nat) (x : Value), xs[j]? = some x → arr[o + i + j]? = some x) → (loadCellsFrom ⟨c, o, none⟩ i xs.length acc).run P w = .ok (acc ++ xs.toArray) w
  | [], i, acc, _ => by simp [loadCellsFrom]
  | x :: xs, i, acc, h => by
    have h0 := h 0 x rfl
    simp only [List.length_cons, loadCellsFrom, Sem.run_bind, run_load, addr_add]
    rw [cell_at hh (by simpa using h0)]
    simp only [Result.andThen_ok]
    rw [run_loadCellsFrom_at hh xs (i + 1) (acc.push x) fun j y hy => by
      have := h (j + 1) y (by simpa using hy)
      rw [← this]; congr 1; omega]
    simp
theorem run_loadCells_at {w : World} {c o : Nat} {arr : Array Value} {e : TypeId} {fr : Nat × Nat} (hh : w.heap[c]? = some (.cells arr e fr))
    (xs : List Value) (h : ∀ (j : Nat) (x : Value), xs[j]? = some x → arr[o + j]? = some x) : (loadCells ⟨c, o, none⟩ xs.length).run P w = .ok xs.toArray w := by
  unfold loadCells
  rw [run_loadCellsFrom_at hh xs 0 #[] (fun j x hx => by simpa using h j x hx)]; simp
def setArr (a : Array Value) (o : Nat) : List Value → Array Value
  | [] => a
  | x :: xs => setArr (a.setIfInBounds o x) (o + 1) xs
@[simp] theorem size_setArr : ∀ (xs : List Value) (a : Array Value) (o : Nat), (setArr a o xs).size = a.size
  | [], a, o => rfl
  | x :: xs, a, o => by simp [setArr, size_setArr xs]
theorem get_setArr : ∀ (xs : List Value) (a : Array Value) (o j : Nat), o + xs.length ≤ a.size → (setArr a o xs)[j]? = if o ≤ j ∧ j < o + xs.length then xs[j - o]? else a[j]?
  | [], a, o, j, _ => by simp only [setArr]; rw [if_neg (by simp)]
  | x :: xs, a, o, j, h => by
    simp only [List.length_cons] at h
    simp only [setArr]
    rw [get_setArr xs _ _ _ (by simp; omega)]
    by_cases e : o = j
    · subst e
      rw [if_neg (by omega), if_pos ⟨Nat.le_refl _, by simp⟩]
      have : o < a.size := by omega
      simp [this]
    · by_cases h1 : o + 1 ≤ j ∧ j < o + 1 + xs.length
      · rw [if_pos h1, if_pos ⟨by omega, by simp; omega⟩]
        have : j - o = (j - (o + 1)) + 1 := by omega
        rw [this]; rfl
      · rw [if_neg h1, if_neg (by simp; omega), Array.getElem?_setIfInBounds_ne e]
theorem putB_self {w : World} {c : Nat} {o : Go.Obj} (h : w.heap[c]? = some o) : w.putB c o = w := by
  have : w.heap.setIfInBounds c o = w.heap := by
    apply Array.ext
    · simp
    · intro i h1 h2
      by_cases e : c = i
      · subst e; simp; rw [Array.getElem?_eq_getElem h2] at h; exact (Option.some.inj h).symm
      · rw [Array.getElem_setIfInBounds_ne (h := e)]
  simp [World.putB, this]
theorem putB_putB (w : World) (c : Nat) (o o' : Go.Obj) : (w.putB c o).putB c o' = w.putB c o' := by simp [World.putB]
theorem setCell_putB {w : World} {c o : Nat} {arr : Array Value} {e : TypeId} {fr : Nat × Nat} {x : Value} (hh : w.heap[c]? = some (.cells arr e fr)) : w.setCell ⟨c, o, none⟩ x = w.putB c (.cells (arr.setIfInBounds o x) e fr) := by
  have hv := (Array.getElem?_eq_some_iff.1 hh).2
  unfold World.setCell World.putB
  congr 1
  apply Array.ext
  · simp
  · intro i h1 h2
    rw [Array.getElem_modify]
    by_cases e' : c = i
    · subst e'; simp [hv]
    · rw [if_neg e', Array.getElem_setIfInBounds_ne (h := e')]
theorem run_storeCells_row {c o : Nat} {e : TypeId} {fr : Nat × Nat} : ∀ (xs : List Value) (i : Nat) (arr : Array Value) (w : World), w.heap[c]? = some (.cells arr e fr) → o + i + xs.length ≤ arr.size → (fr.2 ≤ o + i ∨ arr.size ≤ fr.1) →
    (∀ x ∈ xs, x.oneCell' = true) → (storeCells ⟨c, o, none⟩ xs i).run P w = .ok () (w.putB c (.cells (setArr arr (o + i) xs) e fr))
  | [], i, arr, w, hh, _, _, _ => by simp [storeCells, setArr, putB_self hh]
  | x :: xs, i, arr, w, hh, hs, hf, h1 => by
    simp only [List.length_cons] at hs
    have hlt : o + i < arr.size := by omega
    simp only [storeCells, Sem.run_bind, addr_add]
    rw [run_store P w _ x _ (h1 x (by simp)), cell_at hh (Array.getElem?_eq_getElem hlt)]
    have hfz : w.frozen? ⟨c, o + i, none⟩ = false := by
      simp only [World.frozen?, hh]
      rcases hf with hf | hf
      · simp; intro _; omega
      · simp; intro h; omega
    simp only [hfz, Bool.false_eq_true, if_false, Result.andThen_ok]
    rw [setCell_putB hh]
    have hc : c < w.heap.size := (Array.getElem?_eq_some_iff.1 hh).1
    rw [run_storeCells_row xs (i + 1) (arr.setIfInBounds (o + i) x) _ (heap_putB_same hc) (by simp; omega) (by rcases hf with hf | hf; exact .inl (by omega); exact .inr (by simpa using hf)) (fun y hy => h1 y (by simp [hy]))]
    rw [putB_putB]
    simp only [setArr]
    rfl

/-! ### rows -/
theorem ldK_true {cs : T V} {n : Nat} : ∀ {o : Nat} {k : List V → Bool}, ldK cs n o k = true ↔ ∃ l : List V, (l.length = n ∧ ∀ i v, l[i]? = some v → cs.get (o + i) = some v) ∧ k l = true := by
  induction n with
  | zero =>
    intro o k
    constructor
    · intro h; exact ⟨[], ⟨rfl, fun i v hv => by simp at hv⟩, h⟩
    · rintro ⟨l, ⟨hl, _⟩, h⟩; rw [List.length_eq_zero_iff.1 hl] at h; exact h
  | succ n ih =>
    intro o k
    have h : ldK cs (n + 1) o k = og (cs.get o) fun v => ldK cs n (o + 1) fun l => k (v :: l) := rfl
    rw [h, og_true]
    constructor
    · rintro ⟨v, hv, h2⟩
      obtain ⟨l, ⟨hl, hg⟩, h3⟩ := ih.1 h2
      refine ⟨v :: l, ⟨by simp [hl], fun i u hu => ?_⟩, h3⟩
      cases i with
      | zero => simp at hu; subst hu; exact hv
      | succ i => simp at hu; rw [← hg i u hu]; congr 1; omega
    · rintro ⟨l, ⟨hl, hg⟩, h2⟩
      cases l with
      | nil => simp at hl
      | cons v l =>
        refine ⟨v, hg 0 v rfl, ih.2 ⟨l, ⟨by simpa using hl, fun i u hu => ?_⟩, h2⟩⟩
        rw [← hg (i + 1) u (by simpa using hu)]; congr 1; omega
theorem stK_true {l : List V} : ∀ {cs : T V} {o : Nat} {k : T V → Bool}, stK l cs o k = true ↔ (∀ v ∈ l, one v = true) ∧ k (T.ofList l o cs) = true := by
  induction l with
  | nil => intro cs o k; exact ⟨fun h => ⟨fun v hv => by simp at hv, h⟩, fun h => h.2⟩
  | cons v l ih =>
    intro cs o k
    have h : stK (v :: l) cs o k = oneV v (cs.putK (some v) o fun cs' => stK l cs' (o + 1) k) := rfl
    rw [h, oneV_true, T.putK_eq, ih]
    simp only [T.ofList_cons, List.mem_cons, forall_eq_or_imp]
    exact ⟨fun ⟨a, b, c⟩ => ⟨⟨a, b⟩, c⟩, fun ⟨⟨a, b⟩, c⟩ => ⟨a, b, c⟩⟩
/-- the cells that a row is known to hold, in the world -/
theorem RowR.list {ρ : Ren} {n : Nat} {cs : T V} {w : Nat} {ro : Bool} {fz s : Nat} {c : Array Value} {fr : Nat × Nat} (hr : RowR ρ n cs w ro fz s c fr) {o : Nat}
    {l : List V} (hn : o + l.length ≤ n) (h : ∀ i v, l[i]? = some v → cs.get (o + i) = some v) : ∃ xs : List Value, VRL ρ l xs ∧ ∀ (j : Nat) (x : Value), xs[j]? = some x → c[s + o + j]? = some x := by
  have cell : ∀ i v, l[i]? = some v → ∃ x, c[s + o + i]? = some x ∧ VR ρ v x := fun i v hv => by
    have hi : i < l.length := (List.getElem?_eq_some_iff.1 hv).1
    have := hr.cell _ _ (by omega) (h i v hv)
    rwa [show s + (o + i) = s + o + i from by omega] at this
  refine ⟨(List.range l.length).map fun j => (c[s + o + j]?).getD undef, VRL.of_get (by simp) fun i v hv => ?_, fun j x hx => ?_⟩
  · obtain ⟨x, hx, hv'⟩ := cell i v hv
    have hi : i < l.length := (List.getElem?_eq_some_iff.1 hv).1
    refine ⟨x, ?_, hv'⟩
    rw [List.getElem?_map, List.getElem?_range hi]; simp only [Option.map_some]; rw [hx]; rfl
  · rw [List.getElem?_map] at hx
    by_cases hj : j < l.length
    · rw [List.getElem?_range hj] at hx
      simp only [Option.map_some, Option.some.injEq] at hx
      obtain ⟨y, hy, _⟩ := cell j l[j] (List.getElem?_eq_getElem hj)
      rw [hy] at hx ⊢; simpa using hx
    · rw [List.getElem?_eq_none (by simpa using hj)] at hx; cases hx
theorem RowR.stored {ρ : Ren} {n : Nat} {cs : T V} {w : Nat} {ro : Bool} {fz s : Nat} {c : Array Value} {fr : Nat × Nat} (hr : RowR ρ n cs w ro fz s c fr) {o : Nat} {l : List V} {xs : List Value} (hl : VRL ρ l xs) (hn : o + l.length ≤ n) :
    RowR ρ n (T.ofList l o cs) w ro fz s (setArr c (s + o) xs) fr := by
  have hlen := hl.length
  have hb : s + o + xs.length ≤ c.size := by have := hr.fits; omega
  refine ⟨by simpa using hr.fits, fun h1 h2 => by simpa using hr.exact_ h1 h2, fun i v hi hv => ?_, fun h => by simpa using hr.free h⟩
  rw [T.get_ofList] at hv
  rw [get_setArr _ _ _ _ hb]
  by_cases h : o ≤ i ∧ i < o + l.length
  · rw [if_pos h] at hv
    rw [if_pos ⟨by omega, by omega⟩]
    obtain ⟨x, hx, hvx⟩ := hl.get hv
    exact ⟨x, by rw [← hx]; congr 1; omega, hvx⟩
  · rw [if_neg h] at hv
    rw [if_neg (by omega)]
    exact hr.cell i v hi hv
/-- a row that is made of a list, or is as one -/
theorem RowR.made {ρ : Ren} {l : List V} {xs : List Value} (h : VRL ρ l xs) {cs : T V} (hc : ∀ i v, i < l.length → cs.get i = some v → l[i]? = some v) (w fz : Nat) : RowR ρ l.length cs w false fz 0 xs.toArray (0, 0) := by
  refine ⟨by simp [h.length], fun _ _ => ⟨rfl, by simp [h.length]⟩, fun i v hi hv => ?_, fun _ => .inl (by simp)⟩
  obtain ⟨x, hx, hr⟩ := h.get (hc i v hi hv); exact ⟨x, by simpa using hx, hr⟩
theorem get_made {l : List V} (i : Nat) (v : V) (_ : i < l.length) (h : (T.ofList l 0 .L).get i = some v) : l[i]? = some v := by
  rw [T.get_ofList] at h
  split at h
  · simpa using h
  · cases h
/-- loads -/
theorem loadRow_true {t n : Nat} {cs : T V} {o : Nat} {k : V → Bool} (h : loadRow P t n cs o k = true) : ∃ v, k v = true ∧ ∀ (ρ : Ren) (w : World) (wl : Nat) (ro : Bool) (fz s b : Nat) (c : Array Value) (e : TypeId) (fr : Nat × Nat),
    w.heap[b]? = some (.cells c e fr) → RowR ρ n cs wl ro fz s c fr → ∃ x, (loadVar t ⟨b, s + o, none⟩).run P w = .ok x w ∧ VR ρ v x := by
  unfold loadRow at h
  obtain ⟨a, ha, h⟩ := og_true.1 h
  rw [bsel_eq] at h
  cases a with
  | true =>
    simp only [if_true] at h
    obtain ⟨sz, hn, h⟩ := og_true.1 h
    obtain ⟨hb, h⟩ := bg_true.1 h
    rw [nble, decide_eq_true_iff] at hb
    obtain ⟨l, ⟨hl, hg⟩, hk⟩ := ldK_true.1 h
    refine ⟨.agg l, hk, fun ρ w wl ro fz s b c e fr hh hr => ?_⟩
    obtain ⟨xs, hxs, hc⟩ := hr.list (by rw [hl]; exact hb) hg
    refine ⟨.agg xs.toArray, ?_, by simp only [VR]; exact ⟨_, rfl, by simpa using hxs⟩⟩
    have := run_loadCells_at (P := P) hh xs hc
    rw [hxs.length, hl] at this
    simp only [loadVar, Sem.run_bind, run_aggT ha, Result.andThen_ok, if_true, run_sizeT hn, this]; rfl
  | false =>
    simp only [Bool.false_eq_true, if_false] at h
    obtain ⟨hb, h⟩ := bg_true.1 h
    rw [nblt, decide_eq_true_iff] at hb
    obtain ⟨v, hv, hk⟩ := og_true.1 h
    refine ⟨v, hk, fun ρ w wl ro fz s b c e fr hh hr => ?_⟩
    obtain ⟨x, hx, hvx⟩ := hr.cell _ _ hb hv
    refine ⟨x, ?_, hvx⟩
    simp only [loadVar, Sem.run_bind, run_aggT ha, Result.andThen_ok, Bool.false_eq_true, if_false, run_load, cell_at hh hx]
end Go.Ev
