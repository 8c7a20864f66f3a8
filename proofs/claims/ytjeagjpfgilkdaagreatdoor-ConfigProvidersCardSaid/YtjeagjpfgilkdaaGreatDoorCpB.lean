/-
  ConfigProviders: what the oracles rest on; the examples of the chapter.
-/
import Derived.Test.YtjeagjpfgilkdaaGreatDoorCpA
set_option linter.unusedVariables false
set_option linter.unusedSimpArgs false
open Go Go.Ev
namespace Go.Proofs.Cp
set_option maxRecDepth 100000
theorem x89 : ∃ fn, ExtAt Tryz.prog 89 fn Extern.BytealgIndexByte.indexByte := ⟨_, rfl, by kernel_rfl, by kernel_rfl, by kernel_rfl, by kernel_rfl⟩
theorem x181 : ∃ fn, ExtAt Tryz.prog 181 fn Extern.BytealgCount.count := ⟨_, rfl, by kernel_rfl, by kernel_rfl, by kernel_rfl, by kernel_rfl⟩
theorem x278 : ∃ fn, ExtAt Tryz.prog 278 fn Extern.BytealgCompare.compare := ⟨_, rfl, by kernel_rfl, by kernel_rfl, by kernel_rfl, by kernel_rfl⟩
theorem x88 : ∃ fn, ExtAt Tryz.prog 88 fn Extern.AbiNoEscape.same := ⟨_, rfl, by kernel_rfl, by kernel_rfl, by kernel_rfl, by kernel_rfl⟩
theorem x107 : ∃ fn, ExtAt Tryz.prog 107 fn (Extern.BytealgMakeNoZero.makeNoZero #[3] #[86]) := ⟨_, rfl, by kernel_rfl, by kernel_rfl, by kernel_rfl, by kernel_rfl⟩
theorem u86 : Tryz.prog.underlying 86 = some (.slice 5) := by kernel_rfl
theorem noNumB : (Tryz.prog.funcs.toList.all fun fn => !(fn.name == "runtime.NumGoroutine")) = true := by kernel_rfl
theorem noNum : NoNum Tryz.prog := fun f fn hf _ => by
  have := List.all_eq_true.1 noNumB fn (by
    rw [← Array.getElem?_toList] at hf
    exact List.mem_of_getElem? hf)
  simpa using this
theorem follows : Tryz.prog.follows .mixedOrders = true := by kernel_rfl
theorem gsize : Tryz.prog.globals.size = 11 := by kernel_rfl
theorem orc0_ok : OrcOk Tryz.prog orc0 := by
  obtain ⟨_, h1⟩ := x89
  obtain ⟨_, h2⟩ := x181
  obtain ⟨_, h3⟩ := x278
  obtain ⟨_, h4⟩ := x88
  obtain ⟨_, h5⟩ := x107
  exact ((((OrcOk.nil.put (oIdx_ok h1)).put (oCnt_ok h2)).put (oCmp_ok h3)).put (oId_ok h4)).put (oMk_ok h5 rfl u86)
theorem self0 : SelfOk Tryz.prog 0 run0 := engine orc0_ok noNum follows 100000
theorem flat0 : Flat0 Tryz.prog h0 := by
  have := tabHeap_flat (P := Tryz.prog) (l := tabs) (fun x hx => by
    rw [gsize]
    simp only [tabs, List.mem_cons, List.not_mem_nil, or_false] at hx
    subst hx; decide)
  rw [gsize] at this
  exact this
/-- the examples of the chapter -/
theorem awakeB : run0.call 4 [] h0 (fun v _ => v.beq (.bool true)) = true := by kernel_rfl
theorem awake_ok : ∃ h', CallOk Tryz.prog 4 [] h0 (.bool true) h' := found self0 flat0.ok awakeB
theorem prov_ok (n : Nat) : ∃ x y z, x < 3 ∧ y < 4 ∧ z < 2 ∧ ∃ h', CallOk Tryz.prog 5 [.int .u8 (.ofNat n)] h0 (prov x y z) h' := by
  obtain ⟨x, y, z, hx, hy, hz, hr⟩ := prov_run n
  exact ⟨x, y, z, hx, hy, hz, found self0 flat0.ok hr⟩
end Go.Proofs.Cp
