import Derived.Test.YtkcekjpohpenkaaSafeWalk
import Derived.Deep.RegionHeld3
import Derived.Sort.QuietIn
/- MootLocks' walk. -/
set_option linter.unusedVariables false
set_option linter.unusedSimpArgs false
namespace Go.Proofs.Ytkcekjpohpenkaa
open Go.RowKit Mo

section
variable {w : World}
set_option maxHeartbeats 1000000 in
set_option maxRecDepth 100000 in
theorem locks_err (n f : Int) (liars cap : Nat) (a : Option Addr) (l : List Say) (code : Int) (hcode : code ≠ 0)
    (hp : ∀ w : World, Calls Try.prog 8 #[.int .i64 n, .int .i64 f, .int .u32 liars, .slice a l.length cap] w fun e w' => e = .returned (.tuple #[zeroMeeting, .int .i64 code]) ∧ Below w.heap.size w w') :
    Calls Try.prog 6 #[.int .i64 n, .int .i64 f, .int .u32 liars, .slice a l.length cap] w (Yes w) := by
  have hP := Lib.hid (hp w)
  clear hp
  have hc1 : (code != 0) = true := by simpa using hcode
  unfold zeroMeeting at hP
  go_enter Try.func6, Try.ntmps6
  go_wp2_with (go_at_call 8; refine (hP.out).mono ?_; rintro e w1 ⟨rfl, hb1⟩; have HB := Lib.hid hb1; clear hb1)
  go_ret
  exact ⟨rfl, HB.out.alloc HB.out.size _⟩

set_option maxHeartbeats 1000000 in
set_option maxRecDepth 100000 in
theorem locks_ok (N F need liars cap : Nat) (a : Option Addr) (l : List Say) (h1 : 1 ≤ N) (h7 : N ≤ 7) (hF : F ≤ (N - 1) / 3) (hneed : need = N - F) (hl : liars < 2 ^ N) (h120 : l.length ≤ 120) (hs : SRow w a l)
    (hp : Calls Try.prog 8 #[.int .i64 N, .int .i64 F, .int .u32 liars, .slice a l.length cap] w (Met w { n := N, need := need, liars := liars } l)) :
    Calls Try.prog 6 #[.int .i64 N, .int .i64 F, .int .u32 liars, .slice a l.length cap] w (Yes w) := by
  have hP := Lib.hid hp
  clear hp
  have hc0 := Lib.hid (inv_run (inv_start (c := { n := N, need := need, liars := liars }) h1 h7 (by simp only; omega) hl) l)
  have H0 := Lib.hid (And.intro hF (And.intro hneed hs))
  clear hF hneed hs
  by_cases hfew : (pop liars : Int) ≤ F
  rotate_left
  · have hfew' : decide ((pop liars : Int) ≤ F) = false := by simpa using hfew
    go_enter Try.func6, Try.ntmps6
    go_wp2_with (first
      | (go_at_call 8
         refine (hP.out).mono ?_
         intro e w1 hm
         obtain ⟨s, cx, cc0, gb, cb, gc, cc, gd, hst, hw, rfl, hM, hcod, hb1⟩ := hm.parts
         have hI := Lib.hid (show Inv _ s from hst ▸ hc0.out)
         have hW := Lib.hid hw
         have hM1 := Lib.hid hM
         have hB1 := Lib.hid hb1
         have hb2 := hb1.alloc hb1.size (.cells #[.slice cx l.length cc0, .slice (some ⟨gb, 0, none⟩) s.blocks.length cb, .slice (some ⟨gc, 0, none⟩) s.blocks.length cc, .slice (some ⟨gd, 0, none⟩) s.blocks.length s.blocks.length] 28)
         have hM2 := hM.later ((Below.refl _ w1).alloc (Nat.le_refl _) (.cells #[.slice cx l.length cc0, .slice (some ⟨gb, 0, none⟩) s.blocks.length cb, .slice (some ⟨gc, 0, none⟩) s.blocks.length cc, .slice (some ⟨gd, 0, none⟩) s.blocks.length s.blocks.length] 28))
         have hk2 := Blk.new w1 28 #[.slice cx l.length cc0, .slice (some ⟨gb, 0, none⟩) s.blocks.length cb, .slice (some ⟨gc, 0, none⟩) s.blocks.length cc, .slice (some ⟨gd, 0, none⟩) s.blocks.length s.blocks.length]
         have hMM2 := Lib.hid hM2
         have hBB2 := Lib.hid hb2
         have hKK2 := Lib.hid hk2
         have hmet := Lib.hid (met_calls (cx := cx) (ccap := cc0) (cb := cb) (gc := gc) (cc := cc) (gd := gd) (dc := s.blocks.length) (a := a) (scap := cap) l.length hM2.blocks (WF.chn hw))
         clear hm hM hb1 hb2 hM2 hk2 hst hw hcod)
      | (go_at_call 9
         refine (hmet.out).mono ?_
         rintro e w3 ⟨rfl, hb3⟩
         have hM3 := Lib.hid (hMM2.out.later hb3)
         have hB3 := Lib.hid (hBB2.out.trans (hb3.mono hBB2.out.size))
         have hK3 : Blk w3 _ _ _ := hKK2.out.below hb3 hKK2.out.lt
         have m1 := hK3.cell 1
         have m2 := hK3.cell 2
         have m3 := hK3.cell 3
         have ml := hK3.lt
         simp only [List.getElem?_toArray, List.getElem?_cons_zero, List.getElem?_cons_succ] at m1 m2 m3
         have hKK3 := Lib.hid hK3
         have hfw0 := few_calls w3 liars N F (by omega) hl
         rw [hfew'] at hfw0
         have hfw := Lib.hid hfw0
         clear hfw0
         clear hb3 hK3)
      | (go_at_call 10
         refine (hfw.out).mono ?_
         rintro e w4 ⟨rfl, rfl⟩))
    go_ret
    exact ⟨rfl, hB3.out⟩
  have hfew' : decide ((pop liars : Int) ≤ F) = true := by simpa using hfew
  go_enter Try.func6, Try.ntmps6
  go_wp2_with (first
    | (go_at_call 8
       refine (hP.out).mono ?_
       intro e w1 hm
       obtain ⟨s, cx, cc0, gb, cb, gc, cc, gd, hst, hw, rfl, hM, hcod, hb1⟩ := hm.parts
       have hI := Lib.hid (show Inv _ s from hst ▸ hc0.out)
       have hW := Lib.hid hw
       have hM1 := Lib.hid hM
       have hB1 := Lib.hid hb1
       have hb2 := hb1.alloc hb1.size (.cells #[.slice cx l.length cc0, .slice (some ⟨gb, 0, none⟩) s.blocks.length cb, .slice (some ⟨gc, 0, none⟩) s.blocks.length cc, .slice (some ⟨gd, 0, none⟩) s.blocks.length s.blocks.length] 28)
       have hM2 := hM.later ((Below.refl _ w1).alloc (Nat.le_refl _) (.cells #[.slice cx l.length cc0, .slice (some ⟨gb, 0, none⟩) s.blocks.length cb, .slice (some ⟨gc, 0, none⟩) s.blocks.length cc, .slice (some ⟨gd, 0, none⟩) s.blocks.length s.blocks.length] 28))
       have hk2 := Blk.new w1 28 #[.slice cx l.length cc0, .slice (some ⟨gb, 0, none⟩) s.blocks.length cb, .slice (some ⟨gc, 0, none⟩) s.blocks.length cc, .slice (some ⟨gd, 0, none⟩) s.blocks.length s.blocks.length]
       have hMM2 := Lib.hid hM2
       have hBB2 := Lib.hid hb2
       have hKK2 := Lib.hid hk2
       have hmet := Lib.hid (met_calls (cx := cx) (ccap := cc0) (cb := cb) (gc := gc) (cc := cc) (gd := gd) (dc := s.blocks.length) (a := a) (scap := cap) l.length hM2.blocks (WF.chn hw))
       clear hm hM hb1 hb2 hM2 hk2 hst hw hcod)
    | (go_at_call 9
       refine (hmet.out).mono ?_
       rintro e w3 ⟨rfl, hb3⟩
       have hM3 := Lib.hid (hMM2.out.later hb3)
       have hB3 := Lib.hid (hBB2.out.trans (hb3.mono hBB2.out.size))
       have hK3 : Blk w3 _ _ _ := hKK2.out.below hb3 hKK2.out.lt
       have m1 := hK3.cell 1
       have m2 := hK3.cell 2
       have m3 := hK3.cell 3
       have ml := hK3.lt
       simp only [List.getElem?_toArray, List.getElem?_cons_zero, List.getElem?_cons_succ] at m1 m2 m3
       have hKK3 := Lib.hid hK3
       have hfw0 := few_calls w3 liars N F (by omega) hl
       rw [hfew'] at hfw0
       have hfw := Lib.hid hfw0
       clear hfw0
       clear hb3 hK3)
    | (go_at_call 10
       refine (hfw.out).mono ?_
       rintro e w4 ⟨rfl, rfl⟩))
  have hFew := Lib.hid (show Few { n := N, need := need, liars := liars } F from ⟨h1, h7, H0.out.1, H0.out.2.1, by simp only; omega⟩)
  have sl1 := hW.out.len1
  have sl40 := hW.out.len40
  go_loopw [11] (fun v wr => ∃ i : Nat, v = .int .i64 i ∧ 1 ≤ i ∧ i ≤ s.blocks.length ∧ Below w3.heap.size w3 wr) (fun v _ => s.blocks.length - (intOf v).toNat)
  case atStart => exact ⟨1, rfl, by omega, by omega, Below.refl _ _⟩
  case round =>
    obtain ⟨i, rfl, hi1, hi, hbr⟩ := hrel
    have n1 := (hbr.cell (p := ⟨w1.heap.size, 1, none⟩) ml).trans m1
    have n2 := (hbr.cell (p := ⟨w1.heap.size, 2, none⟩) ml).trans m2
    have hbr' := Lib.hid hbr
    have hls := hbr.size
    have nl : w1.heap.size < wr.heap.size := by omega
    by_cases hil : i = s.blocks.length
    · subst hil
      clear hbr n2
      go_wp2_with fail
      go_ret
      exact ⟨rfl, hB3.out.trans (hbr'.out.mono hB3.out.size)⟩
    · have hil' : i < s.blocks.length := by omega
      have hne := Lib.hid hil
      clear hil
      have hM4 := hM3.out.later hbr
      obtain ⟨p, hp, hpi, hpc, hpr⟩ := par_cert hI.out (by omega) hil'
      have ci := hM4.cert i hil'
      have cp := hM4.cert p (by omega)
      have ri := hM4.blocks.rnd i hil'
      have rp := hM4.blocks.rnd p (by omega)
      have pi := hM4.blocks.par i hil'
      change wr.cell? ⟨gb, i * 2, none⟩ = some (.int .i64 (Mo.par s i)) at pi
      change wr.cell? ⟨gb, i * 2 + 1, none⟩ = some (.int .i64 (Mo.rnd s i)) at ri
      change wr.cell? ⟨gb, p * 2 + 1, none⟩ = some (.int .i64 (Mo.rnd s p)) at rp
      rw [hp] at pi
      rw [hpc] at cp
      have hri := hW.out.rnd i hil'
      have hrp := hW.out.rnd p (by omega)
      have hpl : p < s.blocks.length := by omega
      have hlk : certified { n := N, need := need, liars := liars } s i = true → (Mo.rnd s i != Mo.rnd s p + 1) = false →
          ∀ x, x < s.blocks.length → certified { n := N, need := need, liars := liars } s x = true → decide (Mo.rnd s p < Mo.rnd s x) = true → decide (pos (path s.blocks x) p < 0) = false := by
        intro hci hr x hx cx hlt
        rw [bne_eq_false_iff_eq] at hr
        have := locks hFew.out hI.out (by omega) hil' hpl hp hci hpc hr _ x (Nat.le_refl _) hx cx (by simpa using hlt)
        rw [decide_eq_false_iff_not, pos_neg]
        intro h
        exact h (List.mem_reverse.2 this)
      have hM5 := Lib.hid hM4
      have hHP := Lib.hid (And.intro hp (And.intro hpc hpr))
      clear hM4 hp hpc hpr hbr
      generalize hri' : Mo.rnd s i = r1 at ri hlk hri
      generalize hci' : certified { n := N, need := need, liars := liars } s i = b1 at ci hlk
      have hHR := Lib.hid hri'
      have hHC := Lib.hid hci'
      clear hri' hci'
      cases b1 with
      | false =>
        clear hlk
        go_wp2_with fail
        go_quiet (fail)
        go_wp2_with fail
        go_roundw
        case measure => simp [intOf]; omega
        exact ⟨i + 1, by simp, by omega, by omega, below_drewN hbr'.out nq⟩
      | true =>
        by_cases hr : r1 = Mo.rnd s p + 1
        · rw [hr] at hlk
          have hlk' := Lib.hid (hlk rfl (by simp))
          clear hlk
          subst hr
          have hne1 : (Mo.rnd s p + 1 != Mo.rnd s p + 1) = false := by simp
          go_wp2_with fail
          go_quiet (fail)
          go_wp2_with fail
          have hb6 := below_drewN hbr'.out nq
          have hM6 := Lib.hid (hM5.out.later (below_drewN (Below.refl _ wr) nq))
          have hB6 := Lib.hid hb6
          have hl6 : w1.heap.size < (wr.drewN nq).heap.size := nl
          have hl7 : w3.heap.size ≤ (wr.drewN nq).heap.size := hls
          clear hM5 n1 n2 ci cp ri rp pi hbr' nl hls hb6
          generalize wr.drewN nq = w6 at hM6 hB6 hl6 hl7 ⊢
          go_loopw [13] (fun v wr => ∃ j : Nat, v = .int .i64 j ∧ j ≤ s.blocks.length ∧ Below w3.heap.size w3 wr) (fun v _ => s.blocks.length - (intOf v).toNat)
          case atStart => exact ⟨0, rfl, by omega, hB6.out⟩
          case round =>
            obtain ⟨j, rfl, hj, hbx⟩ := hrel
            have hM7 := hM3.out.later hbx
            have o1 := (hbx.cell (p := ⟨w1.heap.size, 1, none⟩) ml).trans m1
            have o2 := (hbx.cell (p := ⟨w1.heap.size, 2, none⟩) ml).trans m2
            have hbx' := Lib.hid hbx
            have hlx := hbx.size
            have olt : w1.heap.size < wr.heap.size := by omega
            by_cases hjl : j = s.blocks.length
            · subst hjl
              clear hbx hM7 o2
              go_wp2_with fail
              go_roundw
              case measure => simp [intOf]; omega
              exact ⟨i + 1, by simp, by omega, by omega, hbx'.out⟩
            · have hjl' : j < s.blocks.length := by omega
              have cj := hM7.cert j hjl'
              have rj := hM7.blocks.rnd j hjl'
              have rp := hM7.blocks.rnd p hpl
              change wr.cell? ⟨gb, j * 2 + 1, none⟩ = some (.int .i64 (Mo.rnd s j)) at rj
              change wr.cell? ⟨gb, p * 2 + 1, none⟩ = some (.int .i64 (Mo.rnd s p)) at rp
              have hMx := Lib.hid hM7
              have hne2 := Lib.hid hjl
              have hpc := Lib.hid (fun w => path_calls (gb := gb) (cap := cb) (WF.chn hW.out) j hjl' w)
              have hfin := hlk'.out j hjl'
              clear hM7 hbx hjl
              generalize Mo.rnd s j = r2 at rj hfin
              generalize certified { n := N, need := need, liars := liars } s j = b2 at cj hfin
              cases b2 with
              | false =>
                clear hfin
                go_wp2_with fail
                go_quiet (fail)
                go_wp2_with fail
                go_roundw
                case measure => simp [intOf]; omega
                exact ⟨j + 1, by simp, by omega, below_drewN hbx'.out nq⟩
              | true =>
                by_cases hlt : Mo.rnd s p < r2
                · have hpos' := hfin rfl (by simpa using hlt)
                  clear hfin
                  have hlt' : decide (Mo.rnd s p < r2) = true := by simpa using hlt
                  go_wp2_with fail
                  go_region_held3 (fun w' => w'.cell? ⟨w1.heap.size, 1, none⟩ = some (.slice (some ⟨gb, 0, none⟩) s.blocks.length cb) ∧ w'.cell? ⟨w1.heap.size, 2, none⟩ = some (.slice (some ⟨gc, 0, none⟩) s.blocks.length cc) ∧
                      w'.cell? ⟨gc, j, none⟩ = some (.bool true) ∧ w'.cell? ⟨gb, j * 2 + 1, none⟩ = some (.int .i64 r2) ∧ w'.cell? ⟨gb, p * 2 + 1, none⟩ = some (.int .i64 (Mo.rnd s p)))
                    (go_keep)
                    (first
                      | (go_at_call 12
                         refine (hpc.out _ ((hMx.out.later (below_drewN (Below.refl _ wr) 1)).blocks)).mono ?_
                         intro e w5 hd5
                         obtain ⟨g5, c5, rfl, hown5, hb5⟩ := hd5
                         have hpos := Lib.hid (position_path (WF.chn hW.out) hjl' hown5 p)
                         have hb5' := below_of_drewN hb5
                         have t1 := (hb5'.cell (p := ⟨w1.heap.size, 1, none⟩) olt).trans o1
                         have t2 := (hb5'.cell (p := ⟨w1.heap.size, 2, none⟩) olt).trans o2
                         have t3 := (hb5'.cell (p := ⟨gc, j, none⟩) hMx.out.gc).trans cj
                         have t4 := (hb5'.cell (p := ⟨gb, j * 2 + 1, none⟩) hMx.out.blocks.gb).trans rj
                         have t5 := (hb5'.cell (p := ⟨gb, p * 2 + 1, none⟩) hMx.out.blocks.gb).trans rp
                         have hB5 := Lib.hid hb5'
                         clear hown5 hb5 hb5')
                      | (go_at_call 11
                         refine (hpos.out).mono ?_
                         rintro e w6 ⟨rfl, rfl⟩))
                  go_wp2_with fail
                  exact ⟨⟨j + 1, by simp, by omega, hbx'.out.trans (hB5.out.mono hlx)⟩, by simp [intOf]; omega⟩
                · have hlt' : decide (Mo.rnd s p < r2) = false := by simpa using hlt
                  clear hfin
                  go_wp2_with fail
                  go_quiet (fail)
                  go_wp2_with fail
                  go_roundw
                  case measure => simp [intOf]; omega
                  exact ⟨j + 1, by simp, by omega, below_drewN hbx'.out nq⟩
        · have hne1 : (r1 != Mo.rnd s p + 1) = true := by simpa using hr
          clear hlk
          go_wp2_with fail
          go_quiet (fail)
          go_wp2_with fail
          go_roundw
          case measure => simp [intOf]; omega
          exact ⟨i + 1, by simp, by omega, by omega, below_drewN hbr'.out nq⟩
end
end Go.Proofs.Ytkcekjpohpenkaa
