/-
  ConfigProviders: the oracles, the tables, the providers.
-/
import Derived.Test.YtjeagjpfgilkdaaGreatDoorProg
import Derived.KernelRfl
import Derived.Test.YtjeagjpfgilkdaaGreatDoorE7
set_option linter.unusedVariables false
set_option linter.unusedSimpArgs false
open Go Go.Ev
namespace Go.Proofs.Cp
noncomputable section
def orc0 : Orc := (((((T.L : Orc).put (some oIdx) 89).put (some oCnt) 181).put (some oCmp) 278).put (some oId) 88).put (some (oMk 5)) 107
def pow10 : List Int := [1, 10, 100, 1000, 10000, 100000, 1000000, 10000000, 100000000, 1000000000, 10000000000, 100000000000, 1000000000000, 10000000000000, 100000000000000, 1000000000000000, 10000000000000000, 100000000000000000, 1000000000000000000, 10000000000000000000]
def tabs : List Tab := [⟨1, "internal/strconv.uint64pow10", 244, 199, .u64, pow10⟩]
def h0 : H := tabHeap 11 tabs
def run0 : Self := run Tryz.prog orc0 100000
def okT (r : V) (_ : H) : Bool := match r with | .bool true => true | _ => false
def kindP (i : Nat) : V := match i with | 0 => .str [102, 105, 108, 101] | 1 => .str [100, 110, 115] | _ => .str [104, 116, 116, 112]
def srcP (i : Nat) : V := match i with | 0 => .str [120] | 1 => .str [95, 97, 46, 95, 116, 99, 112, 46, 98] | 2 => .str [47, 115, 100, 47, 97, 32, 98, 46, 106, 115, 111, 110] | _ => .str [104, 116, 116, 112, 58, 47, 47, 195, 169, 47, 34, 113, 34]
def refP (i : Nat) : V := match i with | 0 => .int .i64 1 | _ => .int .i64 10
def provC (x y z : Nat) : List V := [kindP x, srcP y, refP z]
def prov (x y z : Nat) : V := .agg (provC x y z)
set_option maxRecDepth 100000
set_option maxHeartbeats 0
theorem wrap_u8 (i : Int) : ∃ q : Nat, Ev.wrap .u8 i = .ofNat q := by
  rw [wrap_eq]
  have h : 0 ≤ IntKind.wrap .u8 i := by simp only [IntKind.wrap, IntKind.bits, IntKind.signed]; simp; omega
  exact ⟨(IntKind.wrap .u8 i).toNat, (Int.toNat_of_nonneg h).symm⟩
theorem prov_run (n : Nat) : ∃ x y z, x < 3 ∧ y < 4 ∧ z < 2 ∧ run0.call 5 [.int .u8 (.ofNat n)] h0 (fun v _ => v.beq (prov x y z)) = true := by
  obtain ⟨q, hq⟩ := wrap_u8 (iquo (Int.ofNat n) 3)
  obtain ⟨r, hr⟩ := wrap_u8 (iquo (Int.ofNat n) 12)
  refine ⟨Nat.mod n 3, Nat.mod q 4, Nat.mod r 2, Nat.mod_lt _ (by decide), Nat.mod_lt _ (by decide), Nat.mod_lt _ (by decide), ?_⟩
  generalize hk : (fun (v : V) (_ : H) => v.beq (prov (Nat.mod n 3) (Nat.mod q 4) (Nat.mod r 2))) = k
  have h3 : Nat.mod n 3 < 3 := Nat.mod_lt _ (by decide)
  have h4 : Nat.mod q 4 < 4 := Nat.mod_lt _ (by decide)
  have h2 : Nat.mod r 2 < 2 := Nat.mod_lt _ (by decide)
  conv => lhs; whnf
  generalize Nat.mod n 3 = x at *
  have hx : x = 0 ∨ x = 1 ∨ x = 2 := by omega
  clear h3
  rcases hx with rfl | rfl | rfl
  all_goals
    conv => lhs; whnf
    rw [hq]
    clear hq
    rcases q with _ | q
    all_goals
      conv => lhs; whnf
      try
        generalize Nat.mod (q + 1) 4 = y at *
        have hy : y = 0 ∨ y = 1 ∨ y = 2 ∨ y = 3 := by omega
        clear h4
        rcases hy with rfl | rfl | rfl | rfl
      all_goals
        conv => lhs; whnf
        rw [hr]
        clear hr
        rcases r with _ | r
        all_goals
          conv => lhs; whnf
          try
            generalize Nat.mod (r + 1) 2 = z at *
            have hz : z = 0 ∨ z = 1 := by omega
            clear h2
            rcases hz with rfl | rfl
          all_goals
            subst hk
            show _ = true
            kernel_rfl
end
end Go.Proofs.Cp
