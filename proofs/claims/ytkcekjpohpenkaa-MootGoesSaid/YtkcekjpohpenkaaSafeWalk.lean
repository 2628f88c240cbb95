import Derived.Test.YtkcekjpohpenkaaNe
import Derived.Sort.QuietIn
/- MootSafe's walk. -/
set_option linter.unusedVariables false
set_option linter.unusedSimpArgs false
namespace Go.Proofs.Ytkcekjpohpenkaa
open Go.RowKit Mo

/-- what a law leaves: true, and what lay ahead of it as it lay -/
def Yes (w : World) (e : Ending) (w' : World) : Prop := e = .returned (.bool true) ∧ Below w.heap.size w w'

section
variable {w : World}
set_option maxHeartbeats 1000000 in
set_option maxRecDepth 100000 in
theorem safe_err (n f : Int) (liars cap : Nat) (a : Option Addr) (l : List Say) (code : Int) (hcode : code ≠ 0)
    (hp : ∀ w : World, Calls Try.prog 8 #[.int .i64 n, .int .i64 f, .int .u32 liars, .slice a l.length cap] w fun e w' => e = .returned (.tuple #[zeroMeeting, .int .i64 code]) ∧ Below w.heap.size w w') :
    Calls Try.prog 3 #[.int .i64 n, .int .i64 f, .int .u32 liars, .slice a l.length cap] w (Yes w) := by
  have hP := Lib.hid (hp w)
  clear hp
  have hc1 : (code != 0) = true := by simpa using hcode
  unfold zeroMeeting at hP
  go_enter Try.func3, Try.ntmps3
  go_wp2_with (go_at_call 8; refine (hP.out).mono ?_; rintro e w1 ⟨rfl, hb1⟩; have HB := Lib.hid hb1; clear hb1)
  go_ret
  exact ⟨rfl, HB.out.alloc HB.out.size _⟩

set_option maxHeartbeats 1000000 in
set_option maxRecDepth 100000 in
theorem safe_ok (N F need liars cap : Nat) (a : Option Addr) (l : List Say) (h1 : 1 ≤ N) (h7 : N ≤ 7) (hF : F ≤ (N - 1) / 3) (hneed : need = N - F) (hl : liars < 2 ^ N) (h120 : l.length ≤ 120) (hs : SRow w a l)
    (hp : Calls Try.prog 8 #[.int .i64 N, .int .i64 F, .int .u32 liars, .slice a l.length cap] w (Met w { n := N, need := need, liars := liars } l)) :
    Calls Try.prog 3 #[.int .i64 N, .int .i64 F, .int .u32 liars, .slice a l.length cap] w (Yes w) := by
  have hP := Lib.hid hp
  clear hp
  have hc0 := Lib.hid (inv_run (inv_start (c := { n := N, need := need, liars := liars }) h1 h7 (by simp only; omega) hl) l)
  have H0 := Lib.hid (And.intro hF (And.intro hneed hs))
  clear hF hneed hs
  by_cases hfew : (pop liars : Int) ≤ F
  rotate_left
  · have hfew' : decide ((pop liars : Int) ≤ F) = false := by simpa using hfew
    go_enter Try.func3, Try.ntmps3
    go_wp2_with (first
      | (go_at_call 8
         refine (hP.out).mono ?_
         intro e w1 hm
         obtain ⟨s, cx, cc0, gb, cb, gc, cc, gd, hst, hw, rfl, hM, hcod, hb1⟩ := hm.parts
         have hI := Lib.hid (show Inv _ s from hst ▸ hc0.out)
         have hW := Lib.hid hw
         have hM1 := Lib.hid hM
         have hB1 := Lib.hid hb1
         have hb2 := hb1.alloc hb1.size (.cells #[.slice cx l.length cc0, .slice (some ⟨gb, 0, none⟩) s.blocks.length cb, .slice (some ⟨gc, 0, none⟩) s.blocks.length cc, .slice (some ⟨gd, 0, none⟩) s.blocks.length s.blocks.length] 28)
         have hM2 := hM.later ((Below.refl _ w1).alloc (Nat.le_refl _) (.cells #[.slice cx l.length cc0, .slice (some ⟨gb, 0, none⟩) s.blocks.length cb, .slice (some ⟨gc, 0, none⟩) s.blocks.length cc, .slice (some ⟨gd, 0, none⟩) s.blocks.length s.blocks.length] 28))
         have hk2 := Blk.new w1 28 #[.slice cx l.length cc0, .slice (some ⟨gb, 0, none⟩) s.blocks.length cb, .slice (some ⟨gc, 0, none⟩) s.blocks.length cc, .slice (some ⟨gd, 0, none⟩) s.blocks.length s.blocks.length]
         have hMM2 := Lib.hid hM2
         have hBB2 := Lib.hid hb2
         have hKK2 := Lib.hid hk2
         have hmet := Lib.hid (met_calls (cx := cx) (ccap := cc0) (cb := cb) (gc := gc) (cc := cc) (gd := gd) (dc := s.blocks.length) (a := a) (scap := cap) l.length hM2.blocks (WF.chn hw))
         clear hm hM hb1 hb2 hM2 hk2 hst hw hcod)
      | (go_at_call 9
         refine (hmet.out).mono ?_
         rintro e w3 ⟨rfl, hb3⟩
         have hM3 := Lib.hid (hMM2.out.later hb3)
         have hB3 := Lib.hid (hBB2.out.trans (hb3.mono hBB2.out.size))
         have hK3 : Blk w3 _ _ _ := hKK2.out.below hb3 hKK2.out.lt
         have m1 := hK3.cell 1
         have m2 := hK3.cell 2
         have m3 := hK3.cell 3
         have ml := hK3.lt
         simp only [List.getElem?_toArray, List.getElem?_cons_zero, List.getElem?_cons_succ] at m1 m2 m3
         have hKK3 := Lib.hid hK3
         have hfw0 := few_calls w3 liars N F (by omega) hl
         rw [hfew'] at hfw0
         have hfw := Lib.hid hfw0
         clear hfw0
         clear hb3 hK3)
      | (go_at_call 10
         refine (hfw.out).mono ?_
         rintro e w4 ⟨rfl, rfl⟩))
    go_ret
    exact ⟨rfl, hB3.out⟩
  have hfew' : decide ((pop liars : Int) ≤ F) = true := by simpa using hfew
  go_enter Try.func3, Try.ntmps3
  go_wp2_with (first
    | (go_at_call 8
       refine (hP.out).mono ?_
       intro e w1 hm
       obtain ⟨s, cx, cc0, gb, cb, gc, cc, gd, hst, hw, rfl, hM, hcod, hb1⟩ := hm.parts
       have hI := Lib.hid (show Inv _ s from hst ▸ hc0.out)
       have hW := Lib.hid hw
       have hM1 := Lib.hid hM
       have hB1 := Lib.hid hb1
       have hb2 := hb1.alloc hb1.size (.cells #[.slice cx l.length cc0, .slice (some ⟨gb, 0, none⟩) s.blocks.length cb, .slice (some ⟨gc, 0, none⟩) s.blocks.length cc, .slice (some ⟨gd, 0, none⟩) s.blocks.length s.blocks.length] 28)
       have hM2 := hM.later ((Below.refl _ w1).alloc (Nat.le_refl _) (.cells #[.slice cx l.length cc0, .slice (some ⟨gb, 0, none⟩) s.blocks.length cb, .slice (some ⟨gc, 0, none⟩) s.blocks.length cc, .slice (some ⟨gd, 0, none⟩) s.blocks.length s.blocks.length] 28))
       have hk2 := Blk.new w1 28 #[.slice cx l.length cc0, .slice (some ⟨gb, 0, none⟩) s.blocks.length cb, .slice (some ⟨gc, 0, none⟩) s.blocks.length cc, .slice (some ⟨gd, 0, none⟩) s.blocks.length s.blocks.length]
       have hMM2 := Lib.hid hM2
       have hBB2 := Lib.hid hb2
       have hKK2 := Lib.hid hk2
       have hmet := Lib.hid (met_calls (cx := cx) (ccap := cc0) (cb := cb) (gc := gc) (cc := cc) (gd := gd) (dc := s.blocks.length) (a := a) (scap := cap) l.length hM2.blocks (WF.chn hw))
       clear hm hM hb1 hb2 hM2 hk2 hst hw hcod)
    | (go_at_call 9
       refine (hmet.out).mono ?_
       rintro e w3 ⟨rfl, hb3⟩
       have hM3 := Lib.hid (hMM2.out.later hb3)
       have hB3 := Lib.hid (hBB2.out.trans (hb3.mono hBB2.out.size))
       have hK3 : Blk w3 _ _ _ := hKK2.out.below hb3 hKK2.out.lt
       have m1 := hK3.cell 1
       have m2 := hK3.cell 2
       have m3 := hK3.cell 3
       have ml := hK3.lt
       simp only [List.getElem?_toArray, List.getElem?_cons_zero, List.getElem?_cons_succ] at m1 m2 m3
       have hKK3 := Lib.hid hK3
       have hfw0 := few_calls w3 liars N F (by omega) hl
       rw [hfew'] at hfw0
       have hfw := Lib.hid hfw0
       clear hfw0
       clear hb3 hK3)
    | (go_at_call 10
       refine (hfw.out).mono ?_
       rintro e w4 ⟨rfl, rfl⟩))
  have hFew := Lib.hid (show Few { n := N, need := need, liars := liars } F from ⟨h1, h7, H0.out.1, H0.out.2.1, by simp only; omega⟩)
  have sl1 := hW.out.len1
  have sl40 := hW.out.len40
  go_loopw [11] (fun v wr => ∃ i : Nat, v = .int .i64 i ∧ i ≤ s.blocks.length ∧ Below w3.heap.size w3 wr) (fun v _ => s.blocks.length - (intOf v).toNat)
  case atStart => exact ⟨0, rfl, by omega, Below.refl _ _⟩
  case round =>
    obtain ⟨i, rfl, hi, hbr⟩ := hrel
    have n1 := (hbr.cell (p := ⟨w1.heap.size, 1, none⟩) ml).trans m1
    have hbr' := Lib.hid hbr
    have hls := hbr.size
    have nl : w1.heap.size < wr.heap.size := by omega
    clear hbr
    by_cases hil : i = s.blocks.length
    · subst hil
      go_wp2_with fail
      go_ret
      exact ⟨rfl, hB3.out.trans (hbr'.out.mono hB3.out.size)⟩
    · have hil' : i < s.blocks.length := by omega
      have hne := Lib.hid hil
      clear hil
      go_wp2_with fail
      go_loopw [12] (fun v wx => ∃ j : Nat, v = .int .i64 j ∧ j ≤ i ∧ Below w3.heap.size w3 wx) (fun v _ => i - (intOf v).toNat)
      case atStart => exact ⟨0, rfl, by omega, hbr'.out⟩
      case round =>
        obtain ⟨j, rfl, hj, hbx⟩ := hrel
        have hM4 := hM3.out.later hbx
        have o1 := (hbx.cell (p := ⟨w1.heap.size, 1, none⟩) ml).trans m1
        have o2 := (hbx.cell (p := ⟨w1.heap.size, 2, none⟩) ml).trans m2
        have o3 := (hbx.cell (p := ⟨w1.heap.size, 3, none⟩) ml).trans m3
        have hbx' := Lib.hid hbx
        have hlx := hbx.size
        by_cases hji : j = i
        · subst hji
          clear hbx hM4 o1 o2 o3
          go_wp2_with fail
          go_roundw
          case measure => simp [intOf]; omega
          exact ⟨j + 1, by simp, by omega, hbx'.out⟩
        · have hji' : j < i := by omega
          have ci := hM4.cert i hil'
          have cj := hM4.cert j (by omega)
          have di := hM4.dec i hil'
          have dj := hM4.dec j (by omega)
          have ri := hM4.blocks.rnd i hil'
          have rj := hM4.blocks.rnd j (by omega)
          have hMx := Lib.hid hM4
          have hne2 := Lib.hid hji
          clear hM4 hbx hji
          have hx1 : certified { n := N, need := need, liars := liars } s i = true → certified { n := N, need := need, liars := liars } s j = true → (Mo.rnd s i == Mo.rnd s j) = false := by
            intro c1 c2
            rw [beq_eq_false_iff_ne]
            intro e
            have := one_round hFew.out hI.out hil' (by omega) c1 c2 e
            omega
          have hx2 : (decided { n := N, need := need, liars := liars } s).getD i false = true → (decided { n := N, need := need, liars := liars } s).getD j false = true → decide (pos (path s.blocks i) j < 0) = false := by
            intro d1 d2
            have := safe hFew.out hI.out d1 d2 (by omega)
            rw [decide_eq_false_iff_not, pos_neg]
            intro h
            exact h (List.mem_reverse.2 this)
          have hpc := Lib.hid (fun w => path_calls (gb := gb) (cap := cb) (WF.chn hW.out) i hil' w)
          have hpl := path_length (WF.chn hW.out).chain i hil'
          change wr.cell? ⟨gb, i * 2 + 1, none⟩ = some (.int .i64 (Mo.rnd s i)) at ri
          change wr.cell? ⟨gb, j * 2 + 1, none⟩ = some (.int .i64 (Mo.rnd s j)) at rj
          generalize Mo.rnd s i = r1 at ri hx1
          generalize Mo.rnd s j = r2 at rj hx1
          generalize certified { n := N, need := need, liars := liars } s i = b1 at ci hx1
          generalize certified { n := N, need := need, liars := liars } s j = b2 at cj hx1
          generalize (decided { n := N, need := need, liars := liars } s).getD i false = b3 at di hx2
          generalize (decided { n := N, need := need, liars := liars } s).getD j false = b4 at dj hx2
          have hjl : j < s.blocks.length := by omega
          cases b1 <;> cases b2 <;> cases b3 <;> cases b4
          all_goals try (have hx1' := hx1 rfl rfl)
          all_goals try (have hx2' := hx2 rfl rfl)
          all_goals clear hx1 hx2
          all_goals go_wp2_with fail
          all_goals go_quiet (fail)
          all_goals go_wp2_with (first
            | (go_at_call 12
               refine (hpc.out _ ((hMx.out.later (below_drewN (Below.refl _ wr) nq)).blocks)).mono ?_
               intro e w5 hd5
               obtain ⟨g5, c5, rfl, hown5, hb5⟩ := hd5
               have hpos := Lib.hid (position_path (WF.chn hW.out) hil' hown5 j)
               have hB5 := Lib.hid hb5
               clear hown5 hb5)
            | (go_at_call 11
               refine (hpos.out).mono ?_
               rintro e w6 ⟨rfl, rfl⟩))
          all_goals first
            | exact ⟨⟨j + 1, by simp, by omega, below_drewN hbx'.out nq⟩, by simp [intOf]; omega⟩
            | exact ⟨⟨j + 1, by simp, by omega, (below_drewN hbx'.out nq).trans (hB5.out.mono (by have := hlx; simp; omega))⟩, by simp [intOf]; omega⟩
end
end Go.Proofs.Ytkcekjpohpenkaa
