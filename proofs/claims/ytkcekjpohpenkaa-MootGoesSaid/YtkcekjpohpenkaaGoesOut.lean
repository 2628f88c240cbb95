import Derived.Test.YtkcekjpohpenkaaSafeWalk
import Derived.Test.YtkcekjpohpenkaaNj
import Derived.Deep.OwnRows
import Derived.Sort.QuietIn
/- MootGoes' walk: where it says no more. -/
set_option linter.unusedVariables false
set_option linter.unusedSimpArgs false
namespace Go.Proofs.Ytkcekjpohpenkaa
open Go.RowKit Mo

section
variable {w : World}
set_option maxHeartbeats 1000000 in
set_option maxRecDepth 100000 in
theorem goes_err (n f : Int) (liars cap : Nat) (a : Option Addr) (l : List Say) (code : Int) (hcode : code ≠ 0)
    (hp : ∀ w : World, Calls Try.prog 8 #[.int .i64 n, .int .i64 f, .int .u32 liars, .slice a l.length cap] w fun e w' => e = .returned (.tuple #[zeroMeeting, .int .i64 code]) ∧ Below w.heap.size w w') :
    Calls Try.prog 5 #[.int .i64 n, .int .i64 f, .int .u32 liars, .slice a l.length cap] w (Yes w) := by
  have hP := Lib.hid (hp w)
  clear hp
  have hc1 : (code != 0) = true := by simpa using hcode
  unfold zeroMeeting at hP
  go_enter Try.func5, Try.ntmps5
  go_wp2_with (go_at_call 8; refine (hP.out).mono ?_; rintro e w1 ⟨rfl, hb1⟩; have HB := Lib.hid hb1; clear hb1)
  go_ret
  exact ⟨rfl, HB.out.alloc HB.out.size _⟩

set_option maxHeartbeats 1000000 in
set_option maxRecDepth 100000 in
theorem goes_out (N F need liars cap : Nat) (a : Option Addr) (l : List Say) (s : St) (h1 : 1 ≤ N) (h7 : N ≤ 7) (hF : F ≤ (N - 1) / 3) (hneed : need = N - F) (hl : liars < 2 ^ N) (h120 : l.length ≤ 120) (hs : SRow w a l)
    (hs0 : (run { n := N, need := need, liars := liars } (Mo.start { n := N, need := need, liars := liars }) l).1 = s)
    (hp : Calls Try.prog 8 #[.int .i64 N, .int .i64 F, .int .u32 liars, .slice a l.length cap] w (Met w { n := N, need := need, liars := liars } l))
    (hout : ¬ (pop liars : Int) ≤ F ∨ 40 < s.blocks.length + 2 ∨ 120 < l.length + 4 * N + 2) :
    Calls Try.prog 5 #[.int .i64 N, .int .i64 F, .int .u32 liars, .slice a l.length cap] w (Yes w) := by
  have hP := Lib.hid hp
  clear hp
  have hc0 := Lib.hid (inv_run (inv_start (c := { n := N, need := need, liars := liars }) h1 h7 (by simp only; omega) hl) l)
  have H0 := Lib.hid (And.intro hF (And.intro hneed hs))
  have hS := Lib.hid hs0
  clear hF hneed hs hs0
  by_cases hfew : (pop liars : Int) ≤ F
  · have hfew' : decide ((pop liars : Int) ≤ F) = true := by simpa using hfew
    have hlen := hc0.out.wf.len40
    rw [hS.out] at hlen
    by_cases hq : 40 < s.blocks.length + 2
    · have hq' : (40 : Int) < (s.blocks.length : Int) + 2 := by omega
      go_enter Try.func5, Try.ntmps5
      go_wp2_with (first
        | (go_at_call 8
           refine (hP.out).mono ?_
           intro e w1 hm
           obtain ⟨s2, cx, cc0, gb, cb, gc, cc, gd, hst, hw, rfl, hM, hcod, hb1⟩ := hm.parts
           obtain rfl : s = s2 := hS.out.symm.trans hst
           have hI := Lib.hid (show Inv _ s from hS.out ▸ hc0.out)
           have hW := Lib.hid hw
           have hM1 := Lib.hid hM
           have hB1 := Lib.hid hb1
           have hb2 := hb1.alloc hb1.size (.cells #[.slice cx l.length cc0, .slice (some ⟨gb, 0, none⟩) s.blocks.length cb, .slice (some ⟨gc, 0, none⟩) s.blocks.length cc, .slice (some ⟨gd, 0, none⟩) s.blocks.length s.blocks.length] 28)
           have hM2 := hM.later ((Below.refl _ w1).alloc (Nat.le_refl _) (.cells #[.slice cx l.length cc0, .slice (some ⟨gb, 0, none⟩) s.blocks.length cb, .slice (some ⟨gc, 0, none⟩) s.blocks.length cc, .slice (some ⟨gd, 0, none⟩) s.blocks.length s.blocks.length] 28))
           have hk2 := Blk.new w1 28 #[.slice cx l.length cc0, .slice (some ⟨gb, 0, none⟩) s.blocks.length cb, .slice (some ⟨gc, 0, none⟩) s.blocks.length cc, .slice (some ⟨gd, 0, none⟩) s.blocks.length s.blocks.length]
           have hMM2 := Lib.hid hM2
           have hBB2 := Lib.hid hb2
           have hKK2 := Lib.hid hk2
           have hmet := Lib.hid (met_calls (cx := cx) (ccap := cc0) (cb := cb) (gc := gc) (cc := cc) (gd := gd) (dc := s.blocks.length) (a := a) (scap := cap) l.length hM2.blocks (WF.chn hw))
           clear hm hM hb1 hb2 hM2 hk2 hst hw hcod)
        | (go_at_call 9
           refine (hmet.out).mono ?_
           rintro e w3 ⟨rfl, hb3⟩
           have hM3 := Lib.hid (hMM2.out.later hb3)
           have hB3 := Lib.hid (hBB2.out.trans (hb3.mono hBB2.out.size))
           have hK3 : Blk w3 _ _ _ := hKK2.out.below hb3 hKK2.out.lt
           have m1 := hK3.cell 1
           have m2 := hK3.cell 2
           have ml := hK3.lt
           simp only [List.getElem?_toArray, List.getElem?_cons_zero, List.getElem?_cons_succ] at m1 m2
           have hKK3 := Lib.hid hK3
           have hfw0 := few_calls w3 liars N F (by omega) hl
           rw [hfew'] at hfw0
           have hfw := Lib.hid hfw0
           clear hfw0
           clear hb3 hK3)
        | (go_at_call 10
           refine (hfw.out).mono ?_
           rintro e w4 ⟨rfl, rfl⟩))
      go_ret
      exact ⟨rfl, hB3.out⟩
    · have hq' : (s.blocks.length : Int) + 2 ≤ 40 := by omega
      have hr' : (120 : Int) < (l.length : Int) + 4 * (N : Int) + 2 := by omega
      go_enter Try.func5, Try.ntmps5
      go_wp2_with (first
        | (go_at_call 8
           refine (hP.out).mono ?_
           intro e w1 hm
           obtain ⟨s2, cx, cc0, gb, cb, gc, cc, gd, hst, hw, rfl, hM, hcod, hb1⟩ := hm.parts
           obtain rfl : s = s2 := hS.out.symm.trans hst
           have hI := Lib.hid (show Inv _ s from hS.out ▸ hc0.out)
           have hW := Lib.hid hw
           have hM1 := Lib.hid hM
           have hB1 := Lib.hid hb1
           have hb2 := hb1.alloc hb1.size (.cells #[.slice cx l.length cc0, .slice (some ⟨gb, 0, none⟩) s.blocks.length cb, .slice (some ⟨gc, 0, none⟩) s.blocks.length cc, .slice (some ⟨gd, 0, none⟩) s.blocks.length s.blocks.length] 28)
           have hM2 := hM.later ((Below.refl _ w1).alloc (Nat.le_refl _) (.cells #[.slice cx l.length cc0, .slice (some ⟨gb, 0, none⟩) s.blocks.length cb, .slice (some ⟨gc, 0, none⟩) s.blocks.length cc, .slice (some ⟨gd, 0, none⟩) s.blocks.length s.blocks.length] 28))
           have hk2 := Blk.new w1 28 #[.slice cx l.length cc0, .slice (some ⟨gb, 0, none⟩) s.blocks.length cb, .slice (some ⟨gc, 0, none⟩) s.blocks.length cc, .slice (some ⟨gd, 0, none⟩) s.blocks.length s.blocks.length]
           have hMM2 := Lib.hid hM2
           have hBB2 := Lib.hid hb2
           have hKK2 := Lib.hid hk2
           have hmet := Lib.hid (met_calls (cx := cx) (ccap := cc0) (cb := cb) (gc := gc) (cc := cc) (gd := gd) (dc := s.blocks.length) (a := a) (scap := cap) l.length hM2.blocks (WF.chn hw))
           clear hm hM hb1 hb2 hM2 hk2 hst hw hcod)
        | (go_at_call 9
           refine (hmet.out).mono ?_
           rintro e w3 ⟨rfl, hb3⟩
           have hM3 := Lib.hid (hMM2.out.later hb3)
           have hB3 := Lib.hid (hBB2.out.trans (hb3.mono hBB2.out.size))
           have hK3 : Blk w3 _ _ _ := hKK2.out.below hb3 hKK2.out.lt
           have m1 := hK3.cell 1
           have m2 := hK3.cell 2
           have ml := hK3.lt
           simp only [List.getElem?_toArray, List.getElem?_cons_zero, List.getElem?_cons_succ] at m1 m2
           have hKK3 := Lib.hid hK3
           have hfw0 := few_calls w3 liars N F (by omega) hl
           rw [hfew'] at hfw0
           have hfw := Lib.hid hfw0
           clear hfw0
           clear hb3 hK3)
        | (go_at_call 10
           refine (hfw.out).mono ?_
           rintro e w4 ⟨rfl, rfl⟩))
      go_ret
      exact ⟨rfl, hB3.out⟩
  · have hfew' : decide ((pop liars : Int) ≤ F) = false := by simpa using hfew
    go_enter Try.func5, Try.ntmps5
    go_wp2_with (first
      | (go_at_call 8
         refine (hP.out).mono ?_
         intro e w1 hm
         obtain ⟨s2, cx, cc0, gb, cb, gc, cc, gd, hst, hw, rfl, hM, hcod, hb1⟩ := hm.parts
         obtain rfl : s = s2 := hS.out.symm.trans hst
         have hI := Lib.hid (show Inv _ s from hS.out ▸ hc0.out)
         have hW := Lib.hid hw
         have hM1 := Lib.hid hM
         have hB1 := Lib.hid hb1
         have hb2 := hb1.alloc hb1.size (.cells #[.slice cx l.length cc0, .slice (some ⟨gb, 0, none⟩) s.blocks.length cb, .slice (some ⟨gc, 0, none⟩) s.blocks.length cc, .slice (some ⟨gd, 0, none⟩) s.blocks.length s.blocks.length] 28)
         have hM2 := hM.later ((Below.refl _ w1).alloc (Nat.le_refl _) (.cells #[.slice cx l.length cc0, .slice (some ⟨gb, 0, none⟩) s.blocks.length cb, .slice (some ⟨gc, 0, none⟩) s.blocks.length cc, .slice (some ⟨gd, 0, none⟩) s.blocks.length s.blocks.length] 28))
         have hk2 := Blk.new w1 28 #[.slice cx l.length cc0, .slice (some ⟨gb, 0, none⟩) s.blocks.length cb, .slice (some ⟨gc, 0, none⟩) s.blocks.length cc, .slice (some ⟨gd, 0, none⟩) s.blocks.length s.blocks.length]
         have hMM2 := Lib.hid hM2
         have hBB2 := Lib.hid hb2
         have hKK2 := Lib.hid hk2
         have hmet := Lib.hid (met_calls (cx := cx) (ccap := cc0) (cb := cb) (gc := gc) (cc := cc) (gd := gd) (dc := s.blocks.length) (a := a) (scap := cap) l.length hM2.blocks (WF.chn hw))
         clear hm hM hb1 hb2 hM2 hk2 hst hw hcod)
      | (go_at_call 9
         refine (hmet.out).mono ?_
         rintro e w3 ⟨rfl, hb3⟩
         have hM3 := Lib.hid (hMM2.out.later hb3)
         have hB3 := Lib.hid (hBB2.out.trans (hb3.mono hBB2.out.size))
         have hK3 : Blk w3 _ _ _ := hKK2.out.below hb3 hKK2.out.lt
         have m1 := hK3.cell 1
         have m2 := hK3.cell 2
         have ml := hK3.lt
         simp only [List.getElem?_toArray, List.getElem?_cons_zero, List.getElem?_cons_succ] at m1 m2
         have hKK3 := Lib.hid hK3
         have hfw0 := few_calls w3 liars N F (by omega) hl
         rw [hfew'] at hfw0
         have hfw := Lib.hid hfw0
         clear hfw0
         clear hb3 hK3)
      | (go_at_call 10
         refine (hfw.out).mono ?_
         rintro e w4 ⟨rfl, rfl⟩))
    go_ret
    exact ⟨rfl, hB3.out⟩
end
end Go.Proofs.Ytkcekjpohpenkaa
