import Derived.Test.YtkcekjpohpenkaaDoorRows
import Derived.Test.YtkcekjpohpenkaaDoorMs
import Derived.WalkKit
import Derived.WalkSpells
import Derived.WalkLawsBesides
import Derived.Deep.QuietTactic
import Derived.BigQuiet
import Derived.Lib.Hide
set_option linter.unusedVariables false
set_option linter.unusedSimpArgs false
namespace Go.Proofs.YtkcekjpohpenkaaDoor
open Go.RowKit Mo

def tab : ByteArray := { data := (([0, 1, 1, 2, 1, 2, 2, 3, 1, 2, 2, 3, 2, 3, 3, 4, 1, 2, 2, 3, 2, 3, 3, 4, 2, 3, 3, 4, 3, 4, 4, 5, 1, 2, 2, 3, 2, 3, 3, 4, 2, 3, 3, 4, 3, 4, 4, 5, 2, 3, 3, 4, 3, 4, 4, 5, 3, 4, 4, 5, 4, 5, 5, 6].append [1, 2, 2, 3, 2, 3, 3, 4, 2, 3, 3, 4, 3, 4, 4, 5, 2, 3, 3, 4, 3, 4, 4, 5, 3, 4, 4, 5, 4, 5, 5, 6, 2, 3, 3, 4, 3, 4, 4, 5, 3, 4, 4, 5, 4, 5, 5, 6, 3, 4, 4, 5, 4, 5, 5, 6, 4, 5, 5, 6, 5, 6, 6, 7]).append ([1, 2, 2, 3, 2, 3, 3, 4, 2, 3, 3, 4, 3, 4, 4, 5, 2, 3, 3, 4, 3, 4, 4, 5, 3, 4, 4, 5, 4, 5, 5, 6, 2, 3, 3, 4, 3, 4, 4, 5, 3, 4, 4, 5, 4, 5, 5, 6, 3, 4, 4, 5, 4, 5, 5, 6, 4, 5, 5, 6, 5, 6, 6, 7].append [2, 3, 3, 4, 3, 4, 4, 5, 3, 4, 4, 5, 4, 5, 5, 6, 3, 4, 4, 5, 4, 5, 5, 6, 4, 5, 5, 6, 5, 6, 6, 7, 3, 4, 4, 5, 4, 5, 5, 6, 4, 5, 5, 6, 5, 6, 6, 7, 4, 5, 5, 6, 5, 6, 6, 7, 5, 6, 6, 7, 6, 7, 7, 8])).toArray }
theorem tab_size : tab.size = 256 := by decide +kernel
theorem tab_at : ∀ k : Nat, k < 256 → tab[k]? = some (UInt8.ofNat (pop8 k)) := by decide +kernel

theorem idx (k : Nat) (hk : k < 256) (u : World) : (Instr.index 9 (.string tab) (.int .u32 (k : Int))).run Tryd.prog u = .ok (.int .u8 (pop8 k : Nat)) u := by
  have h := tab_at k hk
  have h8 : pop8 k < 256 := by
    have := pop8_le k
    omega
  simp [Instr.index, run_underlying Tryd.underlying9, asIntOf, h, Result.andThen]
  omega

theorem and255 (x : Nat) (y : Int) (hy : y = (x : Int)) (h : x < 4294967296) : bits BinOp.and IntKind.u32 y 255 = ((x % 256 : Nat) : Int) := by
  subst hy
  rw [show (255 : Int) = ((255 : Nat) : Int) from rfl, u32_and_nat x 255 h (by omega), Go.nat_mask8]
set_option maxRecDepth 100000 in
theorem ones_any (w : World) (x : Nat) (hl1 : x < 4294967296) :
    Calls Tryd.prog 35 #[.int .u32 x] w fun e w' => e = .returned (.int .i64 (pop x : Nat)) ∧ ∃ n, w' = w.drewN n := by
  obtain ⟨a, ha, h0, a2⟩ : ∃ a : Nat, a < 256 ∧ (x : Int) / 16777216 = (a : Int) ∧ Hid (a = x / 16777216) := ⟨x / 16777216, by omega, by omega, rfl⟩
  obtain ⟨b, hb, h1, b2⟩ : ∃ b : Nat, b < 256 ∧ bits BinOp.and IntKind.u32 ((x : Int) / 65536) 255 = (b : Int) ∧ Hid (b = x / 65536 % 256) := ⟨x / 65536 % 256, by omega, and255 _ _ (by omega) (by omega), rfl⟩
  obtain ⟨c, hc, h2, c2⟩ : ∃ c : Nat, c < 256 ∧ bits BinOp.and IntKind.u32 ((x : Int) / 256) 255 = (c : Int) ∧ Hid (c = x / 256 % 256) := ⟨x / 256 % 256, by omega, and255 _ _ (by omega) (by omega), rfl⟩
  obtain ⟨d, hd, h3, d2⟩ : ∃ d : Nat, d < 256 ∧ bits BinOp.and IntKind.u32 (x : Int) 255 = (d : Int) ∧ Hid (d = x % 256) := ⟨x % 256, by omega, and255 _ _ (by omega) (by omega), rfl⟩
  have i0 := idx a ha
  have i1 := idx b hb
  have i2 := idx c hc
  have i3 := idx d hd
  have p0 := pop8_le a
  have p1 := pop8_le b
  have p2 := pop8_le c
  have p3 := pop8_le d
  go_enter Tryd.func35, Tryd.ntmps35
  have ht : ({ data := (([0, 1, 1, 2, 1, 2, 2, 3, 1, 2, 2, 3, 2, 3, 3, 4, 1, 2, 2, 3, 2, 3, 3, 4, 2, 3, 3, 4, 3, 4, 4, 5, 1, 2, 2, 3, 2, 3, 3, 4, 2, 3, 3, 4, 3, 4, 4, 5, 2, 3, 3, 4, 3, 4, 4, 5, 3, 4, 4, 5, 4, 5, 5, 6].append [1, 2, 2, 3, 2, 3, 3, 4, 2, 3, 3, 4, 3, 4, 4, 5, 2, 3, 3, 4, 3, 4, 4, 5, 3, 4, 4, 5, 4, 5, 5, 6, 2, 3, 3, 4, 3, 4, 4, 5, 3, 4, 4, 5, 4, 5, 5, 6, 3, 4, 4, 5, 4, 5, 5, 6, 4, 5, 5, 6, 5, 6, 6, 7]).append ([1, 2, 2, 3, 2, 3, 3, 4, 2, 3, 3, 4, 3, 4, 4, 5, 2, 3, 3, 4, 3, 4, 4, 5, 3, 4, 4, 5, 4, 5, 5, 6, 2, 3, 3, 4, 3, 4, 4, 5, 3, 4, 4, 5, 4, 5, 5, 6, 3, 4, 4, 5, 4, 5, 5, 6, 4, 5, 5, 6, 5, 6, 6, 7].append [2, 3, 3, 4, 3, 4, 4, 5, 3, 4, 4, 5, 4, 5, 5, 6, 3, 4, 4, 5, 4, 5, 5, 6, 4, 5, 5, 6, 5, 6, 6, 7, 3, 4, 4, 5, 4, 5, 5, 6, 4, 5, 5, 6, 5, 6, 6, 7, 4, 5, 5, 6, 5, 6, 6, 7, 5, 6, 6, 7, 6, 7, 7, 8])).toArray } : ByteArray) = tab := rfl
  rw [ht]
  clear ht
  go_wp2
  go_quiet (fail)
  go_wp2
  go_ret
  refine ⟨?_, nq, rfl⟩
  rw [pop_split x hl1, a2.out, b2.out, c2.out, d2.out]
  simp

end Go.Proofs.YtkcekjpohpenkaaDoor
