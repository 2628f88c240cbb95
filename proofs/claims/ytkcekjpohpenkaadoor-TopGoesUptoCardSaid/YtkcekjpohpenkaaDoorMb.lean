import Derived.Test.YtkcekjpohpenkaaDoorMa
import Derived.Laws.OwnMore
import Derived.Deep.Draws
import Derived.Laws.Rows
set_option linter.unusedVariables false
set_option linter.unusedSimpArgs false
namespace Go.Proofs.YtkcekjpohpenkaaDoor
open Go.RowKit Mo

theorem testBit_walk (x i : Nat) (hx : x < 4294967296) : (bits BinOp.and IntKind.u32 ((x : Int) / 2 ^ i) 1 == 1) = x.testBit i := by
  have h2 : x / 2 ^ i < 4294967296 := Nat.lt_of_le_of_lt (Nat.div_le_self _ _) hx
  rw [show ((x : Int) / 2 ^ i) = ((x / 2 ^ i : Nat) : Int) by simp, show (1 : Int) = ((1 : Nat) : Int) from rfl, u32_and_nat _ 1 h2 (by omega), Nat.testBit, Nat.shiftRight_eq_div_pow, Nat.and_one_is_mod, Nat.one_and_eq_mod_two]
  rcases Nat.mod_two_eq_zero_or_one (x / 2 ^ i) with h | h <;> simp [h]

theorem lies_any (w : World) (b liars : Nat) (i : Nat) (hc : w.cell? ⟨b, 2, none⟩ = some (.int .u32 liars)) (h1 : i < 32) (hl1 : liars < 4294967296) :
    Calls Tryd.prog 44 #[.pointer (some ⟨b, 0, none⟩), .int .i64 i] w fun e w' => e = .returned (.bool (liars.testBit i)) ∧ w = w' := by
  go_enter Tryd.func44, Tryd.ntmps44
  go_wp2
  go_ret
  refine ⟨?_, rfl⟩
  simp only [Int.toNat_natCast]
  exact congrArg (fun z => Ending.returned (Value.bool z)) (testBit_walk liars i hl1)

theorem block_any (w : World) (b g len cap : Nat) (i : Int) (hc : w.cell? ⟨b, 3, none⟩ = some (.slice (some ⟨g, 0, none⟩) len cap)) :
    Calls Tryd.prog 43 #[.pointer (some ⟨b, 0, none⟩), .int .i64 i] w fun e w' => e = .returned (.bool (decide (0 ≤ i) && decide (i < len))) ∧ w = w' := by
  go_enter Tryd.func43, Tryd.ntmps43
  go_wp2
  · go_ret
    have h : 0 ≤ i := by assumption
    exact ⟨by simp [h], rfl⟩
  · go_ret
    have h : i < 0 := by assumption
    have h' : ¬ 0 ≤ i := by omega
    exact ⟨by simp [h'], rfl⟩

theorem certified_zero (w : World) (b : Nat) :
    Calls Tryd.prog 18 #[.pointer (some ⟨b, 0, none⟩), .int .i64 0] w fun e w' => e = .returned (.bool true) ∧ ∃ n, w' = w.drewN n := by
  go_enter Tryd.func18, Tryd.ntmps18
  go_wp2
  go_quiet (fail)
  go_wp2
  go_ret
  exact ⟨rfl, nq, rfl⟩

theorem certified_pos (w : World) (b g len cap need : Nat) (i v : Nat) (hi : 0 < i) (hil : i < len) (hc : w.cell? ⟨b, 4, none⟩ = some (.slice (some ⟨g, 0, none⟩) len cap)) (hn : w.cell? ⟨b, 1, none⟩ = some (.int .i64 need))
    (hv : w.cell? ⟨g, i, none⟩ = some (.int .u32 v)) (hvl : v < 4294967296) :
    Calls Tryd.prog 18 #[.pointer (some ⟨b, 0, none⟩), .int .i64 i] w fun e w' => e = .returned (.bool (decide ((need : Int) ≤ (pop v : Nat)))) ∧ ∃ n, w' = w.drewN n := by
  have h0 : ((i : Int) == 0) = false := by simp; omega
  go_enter Tryd.func18, Tryd.ntmps18
  go_wp2
  go_quiet ((go_at_call 35; exact Calls.quiet_of (ones_any _ v hvl)))
  go_wp2
  go_ret
  exact ⟨by simp, nq, rfl⟩

set_option maxHeartbeats 400000 in
theorem agrees_no (w : World) (b g1 l1 c1 g2 l2 c2 i k p : Nat) (r q v : Int) (hk : k < l1) (hp : p < l1) (hi : i < l2)
    (h3 : w.cell? ⟨b, 3, none⟩ = some (.slice (some ⟨g1, 0, none⟩) l1 c1)) (h5 : w.cell? ⟨b, 5, none⟩ = some (.slice (some ⟨g2, 0, none⟩) l2 c2))
    (hk0 : w.cell? ⟨g1, k * 2, none⟩ = some (.int .i64 p)) (hk1 : w.cell? ⟨g1, k * 2 + 1, none⟩ = some (.int .i64 r)) (hp1 : w.cell? ⟨g1, p * 2 + 1, none⟩ = some (.int .i64 q))
    (hm : w.cell? ⟨g2, i * 2, none⟩ = some (.int .i64 v)) (hv : r ≤ v) :
    Calls Tryd.prog 45 #[.pointer (some ⟨b, 0, none⟩), .int .i64 i, .int .i64 k] w fun e w' => e = .returned (.bool false) ∧ ∃ n, w' = w.drewN n := by
  go_enter Tryd.func45, Tryd.ntmps45
  go_wp2
  go_quiet (fail)
  go_wp2
  go_ret
  exact ⟨rfl, nq, rfl⟩

set_option maxHeartbeats 400000 in
theorem agrees_next (w : World) (b g1 l1 c1 g2 l2 c2 i k p : Nat) (r q v : Int) (hk : k < l1) (hp : p < l1) (hi : i < l2)
    (h3 : w.cell? ⟨b, 3, none⟩ = some (.slice (some ⟨g1, 0, none⟩) l1 c1)) (h5 : w.cell? ⟨b, 5, none⟩ = some (.slice (some ⟨g2, 0, none⟩) l2 c2))
    (hk0 : w.cell? ⟨g1, k * 2, none⟩ = some (.int .i64 p)) (hk1 : w.cell? ⟨g1, k * 2 + 1, none⟩ = some (.int .i64 r)) (hp1 : w.cell? ⟨g1, p * 2 + 1, none⟩ = some (.int .i64 q))
    (hm : w.cell? ⟨g2, i * 2, none⟩ = some (.int .i64 v)) (hv : v < r) (hr : 0 ≤ r) (hr' : r ≤ 1000) (hq : (q == r - 1) = true) :
    Calls Tryd.prog 45 #[.pointer (some ⟨b, 0, none⟩), .int .i64 i, .int .i64 k] w fun e w' => e = .returned (.bool true) ∧ ∃ n, w' = w.drewN n := by
  go_enter Tryd.func45, Tryd.ntmps45
  go_wp2
  go_quiet (fail)
  go_wp2
  go_ret
  exact ⟨rfl, nq, rfl⟩

set_option maxHeartbeats 400000 in
theorem agrees_passed (w : World) (b g1 l1 c1 g2 l2 c2 i k p : Nat) (r q v : Int) (x : Bool) (hk : k < l1) (hp : p < l1) (hi : i < l2)
    (h3 : w.cell? ⟨b, 3, none⟩ = some (.slice (some ⟨g1, 0, none⟩) l1 c1)) (h5 : w.cell? ⟨b, 5, none⟩ = some (.slice (some ⟨g2, 0, none⟩) l2 c2))
    (hk0 : w.cell? ⟨g1, k * 2, none⟩ = some (.int .i64 p)) (hk1 : w.cell? ⟨g1, k * 2 + 1, none⟩ = some (.int .i64 r)) (hp1 : w.cell? ⟨g1, p * 2 + 1, none⟩ = some (.int .i64 q))
    (hm : w.cell? ⟨g2, i * 2, none⟩ = some (.int .i64 v)) (hv : v < r) (hr : 0 ≤ r) (hr' : r ≤ 1000) (hq : (q == r - 1) = false)
    (hpass : ∀ n, Calls Tryd.prog 50 #[.pointer (some ⟨b, 0, none⟩), .int .i64 (r - 1), .int .i64 q] (w.drewN n) fun e w' => e = .returned (.bool x) ∧ Below w.heap.size w w') :
    Calls Tryd.prog 45 #[.pointer (some ⟨b, 0, none⟩), .int .i64 i, .int .i64 k] w fun e w' => e = .returned (.bool x) ∧ Below w.heap.size w w' := by
  have H := Lib.hid hpass
  clear hpass
  go_enter Tryd.func45, Tryd.ntmps45
  go_wp2
  go_quiet (fail)
  go_wp2_with (go_at_call 50; refine (H.out _).mono ?_; rintro e w' ⟨rfl, hb⟩)
  go_ret
  exact ⟨rfl, hb⟩

end Go.Proofs.YtkcekjpohpenkaaDoor
