import Derived.Test.YtkcekjpohpenkaaDoorMr
set_option linter.unusedVariables false
set_option linter.unusedSimpArgs false
namespace Go.Proofs.YtkcekjpohpenkaaDoor
open Go.RowKit Mo

/-- blocks that may be -/
structure Chn (bl : List (Int × Int)) : Prop where
  len1 : 1 ≤ bl.length
  len40 : bl.length ≤ 40
  first : bl.getD 0 (0, 0) = (-1, 0)
  par : ∀ b, 0 < b → b < bl.length → 0 ≤ (bl.getD b (0, 0)).1 ∧ (bl.getD b (0, 0)).1 < b ∧ (bl.getD (bl.getD b (0, 0)).1.toNat (0, 0)).2 < (bl.getD b (0, 0)).2
  rnd : ∀ b, b < bl.length → 0 ≤ (bl.getD b (0, 0)).2 ∧ (bl.getD b (0, 0)).2 ≤ 1000
theorem Chn.chain {bl : List (Int × Int)} (h : Chn bl) : Chain bl := by
  intro b hb
  by_cases h0 : b = 0
  · subst h0; rw [h.first]; simp
  · have := h.par b (by omega) hb
    omega
theorem WF.chn {c : Cfg} {s : St} (h : WF c s) : Chn s.blocks := ⟨h.len1, h.len40, h.first, h.par, h.rnd⟩

/-- a row of blocks, to be read -/
structure BRow (w : World) (gb : Nat) (bl : List (Int × Int)) : Prop where
  par : ∀ i : Nat, i < bl.length → w.cell? ⟨gb, i * 2, none⟩ = some (.int .i64 (bl.getD i (0, 0)).1)
  rnd : ∀ i : Nat, i < bl.length → w.cell? ⟨gb, i * 2 + 1, none⟩ = some (.int .i64 (bl.getD i (0, 0)).2)
  gb : gb < w.heap.size
theorem BRow.below {w w' : World} {n gb : Nat} {bl : List (Int × Int)} (h : BRow w gb bl) (hn : gb < n) (hb : Below n w w') : BRow w' gb bl :=
  ⟨fun i hi => (hb.cell (p := ⟨gb, i * 2, none⟩) hn).trans (h.par i hi), fun i hi => (hb.cell (p := ⟨gb, i * 2 + 1, none⟩) hn).trans (h.rnd i hi), Nat.lt_of_lt_of_le h.gb hb.size⟩

section
variable {w : World} {gb cap : Nat} {bl : List (Int × Int)}
set_option maxHeartbeats 1000000 in
theorem check_calls (hr : BRow w gb bl) (hc : Chn bl) : Calls Tryd.prog 22 #[.slice (some ⟨gb, 0, none⟩) bl.length cap] w fun e w' => e = .returned (.int .i64 0) ∧ Below w.heap.size w w' := by
  have l1 := hc.len1
  have l40 := hc.len40
  have HR := Lib.hid hr
  have HC := Lib.hid hc
  have hgb := hr.gb
  clear hr hc
  have z0 : ((bl.length : Int) == 0) = false := beq_eq_false_iff_ne.2 (by omega)
  have z1 : decide ((40 : Int) < bl.length) = false := by simp; omega
  go_enter Tryd.func22, Tryd.ntmps22
  go_wp2_with fail
  go_loopw [13] (fun v wr => ∃ k : Nat, v = .int .i64 k ∧ k ≤ bl.length ∧ Below w.heap.size w wr) (fun v _ => bl.length - (intOf v).toNat)
  case atStart => exact ⟨0, rfl, by omega, Below.refl _ _⟩
  case round =>
    obtain ⟨k, rfl, hk, hB⟩ := hrel
    have hHB := Lib.hid hB
    have hLs := hB.size
    have hgw : gb < wr.heap.size := by omega
    by_cases hkl : k = bl.length
    · subst hkl
      clear hB
      go_wp2_with fail
      go_ret
      exact ⟨rfl, hHB.out⟩
    · have hkl' : k < bl.length := by omega
      have hrk := HC.out.rnd k hkl'
      have hpk := (HR.out.below hgb hB).par k hkl'
      have hrk' := (HR.out.below hgb hB).rnd k hkl'
      by_cases h0 : k = 0
      · subst h0
        rw [HC.out.first] at hpk hrk' hrk
        simp only [Nat.zero_mul, Nat.zero_add] at hpk hrk'
        clear hB
        go_wp2_with fail
        go_quiet (fail)
        go_wp2_with fail
        go_roundw
        case measure => simp [intOf]; omega
        exact ⟨1, rfl, by omega, below_drewN (hHB.out.alloc hLs _) nq⟩
      · obtain ⟨p1, p2, p3⟩ := HC.out.par k (by omega) hkl'
        obtain ⟨p, hp⟩ := Int.eq_ofNat_of_zero_le p1
        rw [hp] at p2 p3 hpk
        simp only [Int.toNat_natCast] at p3
        have hpl : p < bl.length := by omega
        have hrp := (HR.out.below hgb hB).rnd p hpl
        have hrp0 := HC.out.rnd p hpl
        generalize (bl.getD k (0, 0)).2 = rk at *
        generalize (bl.getD p (0, 0)).2 = rp at *
        have hk0 : ((k : Int) == 0) = false := by simpa using h0
        have hk1 : 0 < k := by omega
        have hpk2 : p < k := by omega
        have t1 : decide ((k : Int) ≤ (p : Int)) = false := by simp; omega
        have t1' : decide (k ≤ p) = false := by simp; omega
        have t2 : decide (rk ≤ rp) = false := by simp; omega
        have HP := Lib.hid hp
        clear hB h0 p1 hp
        go_wp2_with fail
        go_quiet (fail)
        go_wp2_with fail
        go_roundw
        case measure => simp [intOf]; omega
        exact ⟨k + 1, rfl, by omega, below_drewN (hHB.out.alloc hLs _) nq⟩
set_option maxHeartbeats 1000000 in
theorem Decided_calls {gc cc : Nat} {cb : Nat} {cert : List Bool} (hr : BRow w gb bl) (hc : Chn bl) (hcl : cert.length = bl.length) (hcr : ∀ i : Nat, i < bl.length → w.cell? ⟨gc, i, none⟩ = some (.bool (cert.getD i false))) (hgc : gc < w.heap.size) :
    Calls Tryd.prog 19 #[.slice (some ⟨gb, 0, none⟩) bl.length cb, .slice (some ⟨gc, 0, none⟩) bl.length cc] w fun e w' => ∃ g, w.heap.size ≤ g ∧
      e = .returned (.tuple #[.slice (some ⟨g, 0, none⟩) bl.length bl.length, .int .i64 0]) ∧ Blk w' g 4 (boolCells (dec bl cert bl.length)) ∧ Below w.heap.size w w' := by
  have hck := Lib.hid (check_calls (cap := cb) hr hc)
  have HR := Lib.hid hr
  have HC := Lib.hid hc
  have HX := Lib.hid hcr
  have hgb := hr.gb
  clear hr hc hcr
  go_enter Tryd.func19, Tryd.ntmps19
  go_wp2_with (go_at_call 22; refine (hck.out).mono ?_; rintro e w1 ⟨rfl, hb1⟩)
  have hd := Lib.hid (decided_calls (w := w1) (gb := gb) (cb := cb) (gc := gc) (cc := cc) (cert := cert) ⟨(HR.out.below hgb hb1).par, (HR.out.below hgb hb1).rnd, fun i hi => (hb1.cell (p := ⟨gc, i, none⟩) hgc).trans (HX.out i hi), (HR.out.below hgb hb1).gb, Nat.lt_of_lt_of_le hgc hb1.size⟩
    HC.out.len1 HC.out.len40 HC.out.chain (fun b h0 hb => (HC.out.par b h0 hb).1) HC.out.rnd)
  have HB := Lib.hid hb1
  clear hb1
  go_wp2_with (go_at_call 36; refine (hd.out).mono ?_; rintro e w2 ⟨rfl, hrow2, hb2⟩; have HR2 := Lib.hid hrow2; have HB2 := Lib.hid hb2; clear hrow2 hb2)
  go_ret2
  exact ⟨_, HB.out.size, rfl, HR2.out, HB.out.trans (HB2.out.mono HB.out.size)⟩
end
end Go.Proofs.YtkcekjpohpenkaaDoor
