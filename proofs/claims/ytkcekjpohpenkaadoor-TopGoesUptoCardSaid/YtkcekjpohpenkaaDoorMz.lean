import Derived.Test.YtkcekjpohpenkaaDoorBk
/- paths: the plain part. -/
set_option linter.unusedVariables false
set_option linter.unusedSimpArgs false
namespace Go.Proofs.YtkcekjpohpenkaaDoor
open Go.RowKit Mo

theorem ups_fuel {bl : List (Int × Int)} (hch : Chain bl) : ∀ (f g : Nat) (b : Int), b < bl.length → b < f → b < g → ups bl f b = ups bl g b
  | 0, g, b, _, hf, _ => by
    rw [ups_neg (by omega), ups_neg (by omega)]
  | f + 1, 0, b, _, _, hg => by
    rw [ups_neg (by omega), ups_neg (by omega)]
  | f + 1, g + 1, b, hb, hf, hg => by
    by_cases h0 : b < 0
    · rw [ups_neg h0, ups_neg h0]
    · rw [ups_step (by omega), ups_step (by omega)]
      have := hch b.toNat (by omega)
      rw [ups_fuel hch f g _ (by omega) (by omega) (by omega)]

theorem upsFull_neg {bl : List (Int × Int)} {b : Int} (h : b < 0) : upsFull bl b = [] := ups_neg h
theorem upsFull_step {bl : List (Int × Int)} (hch : Chain bl) {b : Nat} (hb : b < bl.length) : upsFull bl b = b :: upsFull bl (bl.getD b (0, 0)).1 := by
  have h := hch b hb
  unfold upsFull
  rw [show ((b : Int) + 1).toNat = b + 1 by omega, ups_step (by omega), Int.toNat_natCast, ups_fuel hch b (((bl.getD b (0, 0)).1 + 1).toNat) _ (by omega) (by omega) (by omega)]
theorem upsFull_length {bl : List (Int × Int)} (hch : Chain bl) (b : Nat) (hb : b < bl.length) : (upsFull bl b).length ≤ b + 1 := by
  induction b using Nat.strongRecOn with
  | _ b ih =>
    rw [upsFull_step hch hb]
    have h := hch b hb
    by_cases hn : (bl.getD b (0, 0)).1 < 0
    · rw [upsFull_neg hn]; simp
    · obtain ⟨p, hp⟩ := Int.eq_ofNat_of_zero_le (Int.not_lt.1 hn)
      rw [hp] at h ⊢
      have := ih p (by omega) (by omega)
      simp only [List.length_cons]
      omega
theorem path_step {bl : List (Int × Int)} (hch : Chain bl) {b : Nat} (hb : b < bl.length) : path bl b = path bl (bl.getD b (0, 0)).1 ++ [b] := by
  unfold path
  rw [upsFull_step hch hb, List.reverse_cons]
theorem path_length {bl : List (Int × Int)} (hch : Chain bl) (b : Nat) (hb : b < bl.length) : (path bl b).length ≤ b + 1 := by
  unfold path
  rw [List.length_reverse]
  exact upsFull_length hch b hb

end Go.Proofs.YtkcekjpohpenkaaDoor
