/-
  ConfigProviders: from the evaluator to the row.
-/
import Derived.Test.YtjeagjpfgilkdaaGreatDoorCpE
import Derived.Test.YtjeagjpfgilkdaaGreatDoorCards
import Derived.Test.YtjeagjpfgilkdaaGreatDoorTie
import Derived.JoinedOf
import Derived.OpenShut
import Derived.RowKit
import Derived.SevenTiedAt
import Derived.Stop.Joined
set_option linter.unusedVariables false
set_option linter.unusedSimpArgs false
namespace Go.Proofs.YtjeagjpfgilkdaaGreatDoor
open Go.ChangeShapes Go.WideShapes Go.RowKit Go.Ev
set_option maxRecDepth 100000

theorem own : ownKnob Tryz.prog.godebug = none := by kernel_rfl
theorem tabOk : ∀ x ∈ Cp.tabs, TabOk Tryz.prog Rows.configProvidersRow.laid x := fun x hx => by
  simp only [Cp.tabs, List.mem_cons, List.not_mem_nil, or_false] at hx
  subst hx
  refine ⟨?_, by kernel_rfl, by kernel_rfl, by kernel_rfl, by kernel_rfl, by kernel_rfl, by kernel_rfl, by kernel_rfl⟩
  exact List.mem_cons_of_mem _ (List.mem_cons_of_mem _ (List.mem_cons_self ..))
theorem contract (W : World) (a b : Nat) (hsh : W.ShapedOpen Tryz.prog) (hl : laidMetH Tryz.prog Rows.configProvidersRow.laid W) :
    Calls Tryz.prog 3 #[.int .u8 (a : Int), .int .u8 (b : Int)] W fun e W' => e = .returned (.bool true) ∧ W'.os = W.os ∧ W'.output = W.output ∧ ∀ i, i < W.heap.size → W'.heap[i]? = W.heap[i]? := by
  rw [MakeChecks.laidMetH_plain _ _ _ (by kernel_rfl)] at hl
  have hsz : Tryz.prog.globals.size ≤ W.heap.size := shaped_size (g := 10) hsh (by kernel_rfl) (by kernel_rfl)
  have hr : HR Tryz.prog (gren Tryz.prog) (tabHeap Tryz.prog.globals.size Cp.tabs) W := HR.tables hsh hsz hl (fun x hx => by
    rw [Cp.gsize]
    simp only [Cp.tabs, List.mem_cons, List.not_mem_nil, or_false] at hx
    subst hx; decide) tabOk
  rw [Cp.gsize] at hr
  obtain ⟨h', hc⟩ := Cp.law_ok a b
  have hargs : VRL (gren Tryz.prog) [.int .u8 (.ofNat a), .int .u8 (.ofNat b)] (#[.int .u8 (a : Int), .int .u8 (b : Int)] : Array Value).toList := by
    simp [VRL, VR]
  refine (calls_of Cp.noNum Tryz.func3 rfl hc hr hargs).mono fun e W' he => ?_
  obtain ⟨x, rfl, ⟨ρ', hx⟩, h1, h2, h3⟩ := he.back (fun b o hb => by
    obtain ⟨_, _, _, _, rfl, _⟩ := Cp.flat0.row _ _ hb; rfl)
  exact ⟨by rw [hx.bool_inv], h1, h2, h3⟩
theorem kept_of {W W' : World} (h1 : W'.os = W.os) (h2 : W'.output = W.output) (h3 : ∀ i, i < W.heap.size → W'.heap[i]? = W.heap[i]?) (may : MemPlace → Prop) : W.keptBut W' may :=
  ⟨h1, h2, fun i hi => by rw [h3 i hi]; exact (World.keptBut_refl W may).2.2 i hi⟩
theorem lifted (os : Os) (started : os.Started) (H : Type) (enc : TypeId × Value → H) :
    ReturnsInHanded {} Tryz.checked os 3 .any (fun w args => (Rows.configProvidersSpec.pre enc Tryz.prog Tryz.f3 [] false w args ∧ laidMetH Tryz.prog Rows.configProvidersRow.laid w) ∧ sizedMet enc Tryz.prog Tryz.f3 (OpenSpec.ofChange Rows.configProvidersSpec) false w args)
      (Rows.configProvidersSpec.post enc Tryz.prog Tryz.f3 false true false false) := by
  refine returnsIn_shaped (C := Tryz.checked) (X := fun w _ => laidMetH Tryz.prog Rows.configProvidersRow.laid w) (fun _ _ _ hh h => h.of_heap hh) own started (by kernel_rfl) Tryz.func3
    (ChangeSpec.witness_shaped (enc := enc) (C := Tryz.checked) (os := os) (X := fun w _ => laidMetH Tryz.prog Rows.configProvidersRow.laid w) false (World.laidAll Tryz.prog os Rows.configProvidersRow.laid) #[.int .u8 0, .int .u8 0] 8 (World.laidAll_os _ _ _)
      (World.shaped_of_ZipB (by kernel_rfl) (by kernel_rfl)) (by kernel_rfl) (by kernel_rfl) (by kernel_rfl)
      (by rw [MakeChecks.laidMetH_plain _ _ _ (by kernel_rfl)]; exact laidMet_laidAll _ (by kernel_rfl) (by kernel_rfl))) ?_
  intro W base args ds gs before hsh hval0 hW _ hL
  have hval : ∀ (j : Nat) t v, Tryz.f3.params[j]? = some t → args[j]? = some v → Value.okWide Tryz.prog W .any base t v := hval0
  have hW' := hW
  obtain ⟨p, q, hA0, hV, rfl, _, _⟩ := hW
  have hA : DataW.TrodAll enc Tryz.prog W 0 (fun _ => true) true Tryz.f3.params.toList args.toList ds p := hA0
  rw [Tryz.params3] at hA hval
  obtain ⟨v0, v1, d0, d1, p0, p1, rfl, rfl, rfl, h0, h1⟩ := trodAll_two hA
  obtain ⟨rfl, rfl⟩ := trodVars_none hV
  obtain ⟨a, rfl, rfl, rfl, wa⟩ := open_int Tryz.underlying5 (hval 0 5 v0 rfl rfl) h0
  obtain ⟨b, rfl, rfl, rfl, wb⟩ := open_int Tryz.underlying5 (hval 1 5 v1 rfl rfl) h1
  have ha : 0 ≤ a := by have := wa; simp [Lit.wf, IntKind.min, IntKind.signed] at this; omega
  have hb : 0 ≤ b := by have := wb; simp [Lit.wf, IntKind.min, IntKind.signed] at this; omega
  obtain ⟨a, rfl⟩ := Int.eq_ofNat_of_zero_le ha
  obtain ⟨b, rfl⟩ := Int.eq_ofNat_of_zero_le hb
  refine (contract W a b hsh hL).mono fun e W' ⟨he, k1, k2, k3⟩ => ?_
  subst he
  have e1 : Rows.configProvidersSpec.fn H ([.lit (.int .u8 a), .lit (.int .u8 b)] ++ []) = { results := [.lit (.bool true)], args := [.lit (.int .u8 a), .lit (.int .u8 b)] } := by simp [Rows.configProvidersSpec]
  refine ⟨_, rfl, _, _, _, [], [], [], hW', ?_, ?_, ?_, kept_of k1 k2 k3 _, fun h => by cases h⟩
  · rw [e1]; exact trodAll_mk1 (shut_bool Tryz.underlying4 true)
  · rw [e1]; exact trodAll_mk2 (shut_int Tryz.underlying5 wa) (shut_int Tryz.underlying5 wb)
  · rw [e1]; rfl
end Go.Proofs.YtjeagjpfgilkdaaGreatDoor
