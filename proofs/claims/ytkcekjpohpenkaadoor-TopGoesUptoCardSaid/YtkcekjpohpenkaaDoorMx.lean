import Derived.Test.YtkcekjpohpenkaaDoorMt
import Derived.Deep.AppendLies
set_option linter.unusedVariables false
set_option linter.unusedSimpArgs false
namespace Go.Proofs.YtkcekjpohpenkaaDoor
open Go.RowKit Mo

theorem and_walk (x i : Nat) (hx : x < 4294967296) (hi : i < 32) : (bits BinOp.and IntKind.u32 (x : Int) ((2 : Int) ^ i % 4294967296) != 0) = x.testBit i := by
  have h := two_lt hi
  have e : (2 : Int) ^ i % 4294967296 = ((2 ^ i : Nat) : Int) := by
    have e1 : (2 : Int) ^ i = ((2 ^ i : Nat) : Int) := by simp
    rw [e1]
    generalize 2 ^ i = t at h ⊢
    omega
  rw [e, u32_and_nat _ _ hx h]
  have ht : x &&& 2 ^ i = if x.testBit i then 2 ^ i else 0 := by
    apply Nat.eq_of_testBit_eq
    intro j
    rw [Nat.testBit_and, Nat.testBit_two_pow]
    by_cases hj : i = j
    · subst hj
      cases hb : x.testBit i <;> simp
    · cases hb : x.testBit i <;> simp [hj, Nat.testBit_two_pow]
  rw [ht]
  cases hb : x.testBit i with
  | false => simp
  | true =>
    have := Nat.two_pow_pos i
    simp only [if_true, bne_iff_ne, ne_eq, Int.natCast_eq_zero]
    omega

theorem bit_calls (w : World) (x i : Nat) (hx : x < 4294967296) (hi : i < 32) :
    Calls Tryd.prog 30 #[.int .u32 x, .int .i64 i] w fun e w' => e = .returned (.bool (x.testBit i)) ∧ w = w' := by
  have h0 : decide ((0 : Int) ≤ i) = true := by simp
  have h1 : (i : Int) < 32 := by omega
  have h2 : (i : Int).toNat = i := by simp
  go_enter Tryd.func30, Tryd.ntmps30
  go_wp2
  go_ret
  refine ⟨?_, rfl⟩
  exact congrArg (fun z => Ending.returned (Value.bool z)) (and_walk x i hx hi)

theorem outside_calls (w : World) (x n : Nat) (hn : n ≤ 32) (hx : x < 2 ^ n) :
    Calls Tryd.prog 15 #[.int .u32 x, .int .i64 n] w fun e w' => e = .returned (.bool false) ∧ w = w' := by
  have hx32 : x < 4294967296 := Nat.lt_of_lt_of_le hx (Nat.pow_le_pow_right (by omega) hn)
  have hb := Lib.hid (fun (i : Nat) (h : n ≤ i) => Nat.testBit_lt_two_pow (Nat.lt_of_lt_of_le hx (Nat.pow_le_pow_right (by omega) h)))
  go_enter Tryd.func15, Tryd.ntmps15
  go_wp2_with fail
  go_loopw [5] (fun v wr => ∃ i : Nat, v = .int .i64 i ∧ n ≤ i ∧ i ≤ 32 ∧ w = wr) (fun v _ => 32 - (intOf v).toNat)
  case atStart => exact ⟨n, rfl, by omega, by omega, rfl⟩
  case round =>
    obtain ⟨i, rfl, hni, hi, rfl⟩ := hrel
    by_cases he : i = 32
    · subst he
      go_wp2_with fail
      go_ret
      exact ⟨rfl, rfl⟩
    · have hlt : (i : Int) < 32 := by omega
      have hc := Lib.hid (bit_calls w x i hx32 (by omega))
      rw [hb.out i hni] at hc
      go_wp2_with (go_at_call 30; refine (hc.out).mono ?_; rintro e w' ⟨rfl, rfl⟩)
      go_roundw
      case measure => simp [intOf]; omega
      exact ⟨i + 1, by simp, by omega, by omega, trivial⟩

theorem size_calls (w : World) (x : Nat) (hx : x < 4294967296) :
    Calls Tryd.prog 16 #[.int .u32 x] w fun e w' => e = .returned (.int .i64 (pop x : Nat)) ∧ w = w' := by
  go_enter Tryd.func16, Tryd.ntmps16
  go_wp2_with fail
  go_loopw [3, 4] (fun v u wr => ∃ i : Nat, u = .int .i64 i ∧ i ≤ 32 ∧ v = .int .i64 (((List.range i).countP fun j => x.testBit j : Nat) : Int) ∧ w = wr) (fun _ u _ => 32 - (intOf u).toNat)
  case atStart => exact ⟨0, rfl, by omega, rfl, rfl⟩
  case round =>
    obtain ⟨i, rfl, hi, rfl, rfl⟩ := hrel
    by_cases he : i = 32
    · subst he
      go_wp2_with fail
      go_ret
      exact ⟨rfl, rfl⟩
    · have hlt : (i : Int) < 32 := by omega
      have hcn : (List.range i).countP (fun j => x.testBit j) ≤ i := by
        have := List.countP_le_length (p := fun j => x.testBit j) (l := List.range i)
        simpa using this
      have hs : (List.range (i + 1)).countP (fun j => x.testBit j) = (List.range i).countP (fun j => x.testBit j) + (if x.testBit i then 1 else 0) := by
        rw [List.range_succ, List.countP_append]
        simp [List.countP_cons]
      generalize (List.range i).countP (fun j => x.testBit j) = cn at hcn hs
      cases hb : x.testBit i with
      | false =>
        have hc := Lib.hid (bit_calls w x i hx (by omega))
        rw [hb] at hc hs
        clear hb
        have hS := Lib.hid hs
        clear hs
        go_wp2_with (go_at_call 30; refine (hc.out).mono ?_; rintro e w' ⟨rfl, rfl⟩)
        go_roundw
        case measure => simp [intOf]; omega
        exact ⟨i + 1, by simp, by omega, by rw [hS.out]; simp, trivial⟩
      | true =>
        have hc := Lib.hid (bit_calls w x i hx (by omega))
        rw [hb] at hc hs
        clear hb
        have hS := Lib.hid hs
        clear hs
        go_wp2_with (go_at_call 30; refine (hc.out).mono ?_; rintro e w' ⟨rfl, rfl⟩)
        go_roundw
        case measure => simp [intOf]; omega
        exact ⟨i + 1, by simp, by omega, by rw [hS.out]; simp, trivial⟩

theorem few_calls (w : World) (x n : Nat) (f : Int) (hn : n ≤ 32) (hx : x < 2 ^ n) :
    Calls Tryd.prog 7 #[.int .u32 x, .int .i64 n, .int .i64 f] w fun e w' => e = .returned (.bool (decide (((pop x : Nat) : Int) ≤ f))) ∧ w = w' := by
  have hx32 : x < 4294967296 := Nat.lt_of_lt_of_le hx (Nat.pow_le_pow_right (by omega) hn)
  go_enter Tryd.func7, Tryd.ntmps7
  go_wp2_with (first | (go_at_call 15; refine (outside_calls _ x n hn hx).mono ?_; rintro e w' ⟨rfl, rfl⟩) | (go_at_call 16; refine (size_calls _ x hx32).mono ?_; rintro e w' ⟨rfl, rfl⟩))
  go_ret
  exact ⟨rfl, rfl⟩
end Go.Proofs.YtkcekjpohpenkaaDoor
