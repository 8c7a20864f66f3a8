/-
  ConfigProviders: the law, at all pairs.
-/
import Derived.Test.YtjeagjpfgilkdaaGreatDoorCpC
import Derived.Test.YtjeagjpfgilkdaaGreatDoorCpT0
import Derived.Test.YtjeagjpfgilkdaaGreatDoorCpW0
import Derived.Test.YtjeagjpfgilkdaaGreatDoorCpW1
set_option linter.unusedVariables false
set_option linter.unusedSimpArgs false
open Go Go.Ev
namespace Go.Proofs.Cp
set_option maxRecDepth 100000
noncomputable section
def tripsAll : List (Nat × Nat × Nat) := app (trips 0) (trips 1)
def allT (l : List (Nat × Nat × Nat)) (k : V → Bool) : Bool := List.rec (motive := fun _ => Bool) true (fun t _ ih => bsel (k (provT t)) ih false) l
def oAw : OF := oTab h0 11 [([], .bool true)]
def oPv : OF := fun args h k => match args with
  | [.int .u8 (.ofNat _)] => bg (rowsIn h0 h 11) (allT tripsAll fun v => k v h)
  | _ => false
def oTx : OF := oTab h0 11 (tripsAll.map fun t => ([provT t], txt t))
def findW (args : List V) (h : H) : List Nat := match args with
  | [.agg [.slice b _ _ _]] => b :: (match h.get b with | some (.row _ cs _ _ _ _) => (match cs.get 5 with | some (.slice b2 _ _ _) => [b2] | _ => []) | _ => [])
  | _ => []
def oWr : OF := oDeep 11 findW (tripsAll.map fun t => ⟨hW t, 2, [cfgV], wrt t⟩)
def orc1 : Orc := (((orc0.put (some oAw) 4).put (some oPv) 5).put (some oTx) 6).put (some oWr) 7
def run1 : Self := run Tryz.prog orc1 100000
end
theorem allT_true {l : List (Nat × Nat × Nat)} {k : V → Bool} (h : allT l k = true) : ∀ t ∈ l, k (provT t) = true := by
  induction l with
  | nil => intro t ht; cases ht
  | cons x l ih =>
    obtain ⟨h1, h2⟩ := bsel_and.1 (show bsel (k (provT x)) (allT l k) false = true from h)
    intro t ht
    rcases List.mem_cons.1 ht with rfl | ht
    · exact h1
    · exact ih h2 t ht
theorem trips_mem {x y z : Nat} (hx : x < 3) (hy : y < 4) (hz : z < 2) : (x, y, z) ∈ tripsAll := by
  have hx : x = 0 ∨ x = 1 ∨ x = 2 := by omega
  have hy : y = 0 ∨ y = 1 ∨ y = 2 ∨ y = 3 := by omega
  have hz : z = 0 ∨ z = 1 := by omega
  rcases hx with rfl | rfl | rfl <;> rcases hy with rfl | rfl | rfl | rfl <;> rcases hz with rfl | rfl <;> simp [tripsAll, trips, app_eq]
theorem all_trips {p : Nat × Nat × Nat → Bool} (h0 : (trips 0).all p = true) (h1 : (trips 1).all p = true) : ∀ t ∈ tripsAll, p t = true := by
  intro t ht
  unfold tripsAll at ht
  rw [app_eq] at ht
  rcases List.mem_append.1 ht with h | h
  · exact List.all_eq_true.1 h0 t h
  · exact List.all_eq_true.1 h1 t h
theorem flat_prov : ∀ t ∈ tripsAll, (provT t).flat = true := all_trips (by kernel_rfl) (by kernel_rfl)
theorem oAw_ok : OrcAt Tryz.prog 4 oAw := by
  have := oTab_ok (P := Tryz.prog) (f := 4) flat0 (tab := [([], .bool true)]) (fun p hp => by
    simp only [List.mem_cons, List.not_mem_nil, or_false] at hp
    subst hp
    exact ⟨rfl, rfl, awake_ok⟩)
  rw [gsize] at this
  exact this
theorem oPv_ok : OrcAt Tryz.prog 5 oPv := by
  intro args h k hok hk
  unfold oPv at hk
  split at hk
  · rename_i n
    obtain ⟨h1, h2⟩ := bg_true.1 hk
    obtain ⟨x, y, z, hx, hy, hz, h', hc⟩ := prov_ok n
    have ht := trips_mem hx hy hz
    exact ⟨_, h, allT_true h2 _ ht, hok, Ext.refl _, hc.at_ flat0 rfl (flat_prov _ ht) (by rw [gsize]; exact h1)⟩
  · cases hk
theorem oTx_ok : OrcAt Tryz.prog 6 oTx := by
  have := oTab_ok (P := Tryz.prog) (f := 6) flat0 (tab := tripsAll.map fun t => ([provT t], txt t)) (fun p hp => by
    obtain ⟨t, ht, rfl⟩ := List.mem_map.1 hp
    refine ⟨?_, rfl, found self0 flat0.ok (all_trips (p := textOne) texts0 texts1 t ht)⟩
    have := flat_prov t ht
    simp only [V.flatL, this, Bool.and_self])
  rw [gsize] at this
  exact this
theorem canonW (t : Nat × Nat × Nat) : Canon Tryz.prog (hW t) 2 := by
  have get : ∀ b, (hW t).get b = if b = 12 then some (rowRo 3 24 (provC t.1 t.2.1 t.2.2)) else if b = 11 then some (rowRo 8 32 jobC) else h0.get b := fun b => by
    show (((h0.tab.put (some (rowRo 8 32 jobC)) 11).put (some (rowRo 3 24 (provC t.1 t.2.1 t.2.2))) 12)).get b = _
    rw [T.get_put, T.get_put]; rfl
  refine ⟨fun b o hb => ?_, by rw [gsize]; rfl, fun b o hb => ?_, fun b n cs e fz hlt hb => ?_⟩
  · rw [get] at hb
    show b < 13
    split at hb
    · omega
    · split at hb
      · omega
      · have := flat0.ok _ _ hb
        have e : h0.next = 11 := rfl
        omega
  · rw [get] at hb
    split at hb
    · cases hb; exact ⟨_, _, _, _, rfl⟩
    · split at hb
      · cases hb; exact ⟨_, _, _, _, rfl⟩
      · obtain ⟨n, cs, e, fz, h, _⟩ := flat0.row _ _ hb; exact ⟨n, cs, e, fz, h⟩
  · rw [gsize] at hlt
    rw [get, if_neg (by omega), if_neg (by omega)] at hb
    obtain ⟨n', cs', e', fz', h, hf⟩ := flat0.row _ _ hb
    cases h
    exact hf
theorem oWr_ok : OrcAt Tryz.prog 7 oWr := by
  have := oDeep_ok (P := Tryz.prog) (f := 7) (find := findW) (tab := tripsAll.map fun t => ⟨hW t, 2, [cfgV], wrt t⟩) (fun d hd => by
    obtain ⟨t, ht, rfl⟩ := List.mem_map.1 hd
    exact ⟨canonW t, rfl, found self0 (canonW t).ok (all_trips (p := writeOne) writes0 writes1 t ht)⟩)
  rw [gsize] at this
  exact this
theorem orc1_ok : OrcOk Tryz.prog orc1 := (((orc0_ok.put oAw_ok).put oPv_ok).put oTx_ok).put oWr_ok
theorem self1 : SelfOk Tryz.prog 0 run1 := engine orc1_ok noNum follows 100000
end Go.Proofs.Cp
