import Derived.Test.YtkcekjpohpenkaaMx
import Derived.Sort.QuietIn
set_option linter.unusedVariables false
set_option linter.unusedSimpArgs false
namespace Go.Proofs.Ytkcekjpohpenkaa
open Go.RowKit Mo

def posFrom (l : List Nat) (x : Nat) (i : Nat) : Int := if i < l.length then (if l.getD i 0 = x then (i : Int) else posFrom l x (i + 1)) else -1
  termination_by l.length - i
def pos (l : List Nat) (x : Nat) : Int := posFrom l x 0
theorem posFrom_neg (l : List Nat) (x : Nat) (i : Nat) : posFrom l x i < 0 ↔ ∀ j, i ≤ j → j < l.length → l.getD j 0 ≠ x := by
  unfold posFrom
  split
  · rename_i hi
    split
    · rename_i he
      constructor
      · intro h; omega
      · intro h; exact absurd he (h i (Nat.le_refl _) hi)
    · rename_i he
      rw [posFrom_neg l x (i + 1)]
      constructor
      · intro h j hj hl
        by_cases e : i = j
        · subst e; exact he
        · exact h j (by omega) hl
      · intro h j hj hl
        exact h j (by omega) hl
  · rename_i hi
    constructor
    · intro _ j hj hl; omega
    · intro _; omega
  termination_by l.length - i
theorem pos_neg (l : List Nat) (x : Nat) : pos l x < 0 ↔ x ∉ l := by
  unfold pos
  rw [posFrom_neg]
  constructor
  · intro h hx
    obtain ⟨j, hj, rfl⟩ := List.getElem_of_mem hx
    exact h j (by omega) hj (by simp [hj])
  · intro h j _ hj e
    apply h
    rw [← e]
    simp [hj]

def intL (l : List Nat) : List Value := l.map fun x : Nat => Value.int .i64 x

theorem position_calls (w : World) (g cap len x : Nat) (l : List Nat) (hlen : len = l.length) (h40 : len ≤ 1000) (hr : ∀ i : Nat, i < l.length → w.cell? ⟨g, i, none⟩ = some (.int .i64 ((l.getD i 0 : Nat) : Int))) :
    Calls Try.prog 11 #[.slice (some ⟨g, 0, none⟩) len cap, .int .i64 x] w fun e w' => e = .returned (.int .i64 (pos l x)) ∧ w = w' := by
  have HR := Lib.hid hr
  clear hr
  go_enter Try.func11, Try.ntmps11
  go_wp2_with fail
  go_loopw [5] (fun v wr => ∃ i : Nat, v = .int .i64 i ∧ i ≤ len ∧ posFrom l x i = pos l x ∧ w = wr) (fun v _ => len - (intOf v).toNat)
  case atStart => exact ⟨0, rfl, by omega, rfl, rfl⟩
  case round =>
    obtain ⟨i, rfl, hi, hp, rfl⟩ := hrel
    by_cases he : i = len
    · subst he
      rw [posFrom, if_neg (by omega)] at hp
      have HP := Lib.hid hp
      clear hp
      go_wp2_with fail
      go_ret
      exact ⟨by rw [← HP.out]; rfl, rfl⟩
    · have hil : i < len := by omega
      have hc := HR.out i (by omega)
      rw [posFrom, if_pos (by omega)] at hp
      generalize l.getD i 0 = y at hc hp
      by_cases hy : y = x
      · subst hy
        rw [if_pos rfl] at hp
        have HP := Lib.hid hp
        clear hp
        go_wp2_with fail
        go_ret
        exact ⟨by rw [← HP.out]; rfl, rfl⟩
      · rw [if_neg hy] at hp
        have HP := Lib.hid hp
        have hy' : ((y : Int) == (x : Int)) = false := by simp; omega
        have hy2 : ¬ ((y : Int) = (x : Int)) := by omega
        clear hp
        go_wp2_with fail
        go_roundw
        case measure => simp [intOf]; omega
        exact ⟨i + 1, by simp, by omega, HP.out, trivial⟩

theorem inside_calls (w : World) (g cap many : Nat) (x : Int) (hr : w.cell? ⟨g, 0, none⟩ = some (.int .i64 x)) (hx : 0 ≤ x ∧ x < many) :
    Calls Try.prog 13 #[.int .i64 many, .slice (some ⟨g, 0, none⟩) 1 cap] w fun e w' => e = .returned (.bool true) ∧ w = w' := by
  obtain ⟨hx0, hx1⟩ := hx
  go_enter Try.func13, Try.ntmps13
  go_wp2_with fail
  go_loopw [9] (fun v wr => ∃ i : Nat, v = .int .i64 i ∧ i ≤ 1 ∧ w = wr) (fun v _ => 1 - (intOf v).toNat)
  case atStart => exact ⟨0, rfl, by omega, rfl⟩
  case round =>
    obtain ⟨i, rfl, hi, rfl⟩ := hrel
    by_cases he : i = 1
    · subst he
      go_wp2_with fail
      go_ret
      exact ⟨rfl, rfl⟩
    · obtain rfl : i = 0 := by omega
      go_wp2_with fail
      go_roundw
      case measure => simp [intOf]
      exact ⟨1, by simp, by omega, trivial⟩

section
variable {w : World} {gb cap : Nat} {bl : List (Int × Int)}
set_option maxHeartbeats 1000000 in
theorem blocksCheck_calls (hr : BRow w gb bl) (hc : Chn bl) : Calls Try.prog 28 #[.slice (some ⟨gb, 0, none⟩) bl.length cap] w fun e w' => e = .returned (.int .i64 0) ∧ Below w.heap.size w w' := by
  have l1 := hc.len1
  have l40 := hc.len40
  have HR := Lib.hid hr
  have HC := Lib.hid hc
  have hgb := hr.gb
  have f0 := hr.par 0 (by omega)
  have f1 := hr.rnd 0 (by omega)
  rw [hc.first] at f0 f1
  simp only [Nat.zero_mul, Nat.zero_add] at f0 f1
  clear hr hc
  have z0 : ((bl.length : Int) == 0) = false := beq_eq_false_iff_ne.2 (by omega)
  have z1 : decide ((40 : Int) < bl.length) = false := by simp; omega
  go_enter Try.func28, Try.ntmps28
  go_wp2_with fail
  go_loopw [3] (fun v wr => ∃ k : Nat, v = .int .i64 k ∧ 1 ≤ k ∧ k ≤ bl.length ∧ Below w.heap.size w wr) (fun v _ => bl.length - (intOf v).toNat)
  case atStart => exact ⟨1, rfl, by omega, by omega, Below.refl _ _⟩
  case round =>
    obtain ⟨k, rfl, hk1, hk, hB⟩ := hrel
    have hHB := Lib.hid hB
    have hLs := hB.size
    have hgw : gb < wr.heap.size := by omega
    by_cases hkl : k = bl.length
    · subst hkl
      clear hB
      go_wp2_with fail
      go_ret
      exact ⟨rfl, hHB.out⟩
    · have hkl' : k < bl.length := by omega
      have hrk := HC.out.rnd k hkl'
      have hpk := (HR.out.below hgb hB).par k hkl'
      have hrk' := (HR.out.below hgb hB).rnd k hkl'
      obtain ⟨p1, p2, p3⟩ := HC.out.par k (by omega) hkl'
      obtain ⟨p, hp⟩ := Int.eq_ofNat_of_zero_le p1
      rw [hp] at p2 p3 hpk
      simp only [Int.toNat_natCast] at p3
      have hpl : p < bl.length := by omega
      have hrp := (HR.out.below hgb hB).rnd p hpl
      have hrp0 := HC.out.rnd p hpl
      generalize (bl.getD k (0, 0)).2 = rk at *
      generalize (bl.getD p (0, 0)).2 = rp at *
      have hpk2 : p < k := by omega
      have t1 : decide ((k : Int) ≤ (p : Int)) = false := by simp; omega
      have t1' : decide (k ≤ p) = false := by simp; omega
      have t2 : decide (rk ≤ rp) = false := by simp; omega
      have HP := Lib.hid hp
      clear hB p1 hp f0 f1
      go_wp2_with fail
      go_quiet (fail)
      go_wp2_with fail
      go_roundw
      case measure => simp [intOf]; omega
      exact ⟨k + 1, by simp, by omega, by omega, below_drewN hHB.out nq⟩

theorem blocks_calls (hr : BRow w gb bl) (hc : Chn bl) : Calls Try.prog 18 #[.slice (some ⟨gb, 0, none⟩) bl.length cap] w fun e w' => e = .returned (.bool true) ∧ Below w.heap.size w w' := by
  have hck := Lib.hid (blocksCheck_calls (cap := cap) hr hc)
  clear hr hc
  go_enter Try.func18, Try.ntmps18
  go_wp2_with (go_at_call 28; refine (hck.out).mono ?_; rintro e w1 ⟨rfl, hb1⟩; have HB := Lib.hid hb1; clear hb1)
  go_ret
  exact ⟨rfl, HB.out⟩

theorem met_calls {cx : Option Addr} {ccap gb cb gd : Nat} {gc cc dc : Nat} (n : Nat) {a : Option Addr} {scap : Nat} (hr : BRow w gb bl) (hc : Chn bl) :
    Calls Try.prog 9 #[.agg #[.slice cx n ccap, .slice (some ⟨gb, 0, none⟩) bl.length cb, .slice (some ⟨gc, 0, none⟩) bl.length cc, .slice (some ⟨gd, 0, none⟩) bl.length dc], .slice a n scap] w fun e w' => e = .returned (.bool true) ∧ Below w.heap.size w w' := by
  have hB0 := (Below.refl w.heap.size w).alloc (Nat.le_refl _) (.cells #[.slice cx n ccap, .slice (some ⟨gb, 0, none⟩) bl.length cb, .slice (some ⟨gc, 0, none⟩) bl.length cc, .slice (some ⟨gd, 0, none⟩) bl.length dc] 28)
  have hbk := Blk.new w 28 #[.slice cx n ccap, .slice (some ⟨gb, 0, none⟩) bl.length cb, .slice (some ⟨gc, 0, none⟩) bl.length cc, .slice (some ⟨gd, 0, none⟩) bl.length dc]
  have hbl := Lib.hid (blocks_calls (cap := cb) (hr.below hr.gb hB0) hc)
  have HB0 := Lib.hid hB0
  have HK := Lib.hid hbk
  clear hr hc hB0 hbk
  go_enter Try.func9, Try.ntmps9
  go_wp2_with (go_at_call 18; refine (hbl.out).mono ?_; rintro e w1 ⟨rfl, hb1⟩; have HK1 := (HK.out.below hb1 (by simp)); have m1 := HK1.cell 1; have m2 := HK1.cell 2; have m3 := HK1.cell 3; simp only [List.getElem?_toArray, List.getElem?_cons_zero, List.getElem?_cons_succ] at m1 m2 m3; have HB := Lib.hid hb1; clear hb1 HK1)
  go_ret
  exact ⟨rfl, HB0.out.trans (HB.out.mono HB0.out.size)⟩
end
end Go.Proofs.Ytkcekjpohpenkaa
