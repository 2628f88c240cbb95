import Derived.Test.YtkcekjpohpenkaaDoorMeetsA
/- BookMeets' walk. -/
set_option linter.unusedVariables false
set_option linter.unusedSimpArgs false
set_option maxRecDepth 100000
namespace Go.Proofs.YtkcekjpohpenkaaDoor
open Go.RowKit Mo
section
variable {w : World}

set_option maxHeartbeats 4000000 in
theorem meets_yy (n f : Int) (liars cap mcap pcap : Nat) (a ma pa : Option Addr) (l : List Say) (m : List Int) (pp : List (List Lg.Pay)) (c : Cfg) (s : St) (hs0 : (run c (Mo.start c) l).1 = s) (hl : l.length ≤ 120)
    (hp : ∀ w : World, SRow w a l → Calls Tryd.prog 9 #[.int .i64 n, .int .i64 f, .int .u32 liars, .slice a l.length cap] w (Met w c l)) (hs : SRow w a l) (hm : MRow w ma m) (hpp : PPRow w pa pp) (hg : Laid w)
    (hx : ledCode m 0 = 0) (hy : bookCode c s m pp = 0) :
    Calls Tryd.prog 5 #[.int .i64 n, .int .i64 f, .int .u32 liars, .slice a l.length cap, .slice ma m.length mcap, .slice pa pp.length pcap] w (Yes w) := by
  have hP := Lib.hid hp
  have HS := Lib.hid (And.intro hs (And.intro hm (And.intro hpp (And.intro hg hs0))))
  have hgp := Lib.hid hg.pos
  clear hp hs hm hpp hg hs0
  have HX := Lib.hid (And.intro hx hy)
  clear hx hy
  go_enter Tryd.func5, Tryd.ntmps5
  go_wp2_with fail
  refine (hP.out _ HS.out.1).mono ?_
  intro e w1 hmet
  obtain ⟨s2, cx, cc0, gb, cb, gc, cc, gd, hst, hw, rfl, hM, hcod, hb1, gb1, gc1, gd1⟩ := hmet.parts
  obtain rfl : s = s2 := HS.out.2.2.2.2.symm.trans hst
  have hC := code_row hcod (run_length l)
  have hb2 : Below w1.heap.size w1 (w1.alloc (.cells #[.slice cx l.length cc0, .slice (some ⟨gb, 0, none⟩) s.blocks.length cb, .slice (some ⟨gc, 0, none⟩) s.blocks.length cc, .slice (some ⟨gd, 0, none⟩) s.blocks.length s.blocks.length] 30)) := (Below.refl _ w1).alloc (Nat.le_refl _) _
  have hK2 := Lib.hid (Blk.new w1 30 #[.slice cx l.length cc0, .slice (some ⟨gb, 0, none⟩) s.blocks.length cb, .slice (some ⟨gc, 0, none⟩) s.blocks.length cc, .slice (some ⟨gd, 0, none⟩) s.blocks.length s.blocks.length])
  have hM2 := Lib.hid (hM.later hb2)
  have hC2 := Lib.hid (hC.later hb2)
  have hB2 := Lib.hid (hb1.trans (hb2.mono hb1.size))
  have HWF := Lib.hid (And.intro hw (run_length (c := c) (s := Mo.start c) l))
  clear hM hC hb1 hb2 hcod hmet gb1 gc1 gd1 hw hst
  go_wp2_with fail
  generalize hW2 : w1.alloc _ = W2 at hK2 hM2 hC2 hB2 ⊢
  have HW2 := Lib.hid hW2
  clear hW2
  refine (book_yes_nil n f liars cap mcap a ma l m c s HS.out.2.2.2.2 (fun w hs => hP.out w hs) (HS.out.1.later hB2.out) (HS.out.2.1.later hB2.out) (HS.out.2.2.2.1.below hgp.out hB2.out) HX.out.1).mono ?_
  intro e w3 hbk
  obtain ⟨xx, x0, xb, xc, xe, xf, xd, xv, xw, xa, xg, xcod, rfl, hM, hCx, hV, hCo, hA, hB⟩ := hbk
  obtain ⟨xk, xl, rfl⟩ := row_len hCo
  have hC := code_row hCx HWF.out.2
  have hb2 : Below w3.heap.size w3 (w3.alloc (.cells #[.slice xx l.length x0, .slice (some ⟨xb, 0, none⟩) s.blocks.length xc, .slice (some ⟨xe, 0, none⟩) s.blocks.length xf, .slice (some ⟨xd, 0, none⟩) s.blocks.length s.blocks.length, .slice xv 0 xw, .slice xk 0 xl, .slice (some ⟨xa, 0, none⟩) m.length xg] 34)) := (Below.refl _ w3).alloc (Nat.le_refl _) _
  have hb3 := hB.trans (hb2.mono hB.size)
  have hK4 := Lib.hid (Blk.new w3 34 #[.slice xx l.length x0, .slice (some ⟨xb, 0, none⟩) s.blocks.length xc, .slice (some ⟨xe, 0, none⟩) s.blocks.length xf, .slice (some ⟨xd, 0, none⟩) s.blocks.length s.blocks.length, .slice xv 0 xw, .slice xk 0 xl, .slice (some ⟨xa, 0, none⟩) m.length xg])
  have hM4 := Lib.hid (hM.later hb2)
  have hC4 := Lib.hid (hC.later hb2)
  have hA4 := Lib.hid (row_turned hA (w' := w3.alloc (.cells #[.slice xx l.length x0, .slice (some ⟨xb, 0, none⟩) s.blocks.length xc, .slice (some ⟨xe, 0, none⟩) s.blocks.length xf, .slice (some ⟨xd, 0, none⟩) s.blocks.length s.blocks.length, .slice xv 0 xw, .slice xk 0 xl, .slice (some ⟨xa, 0, none⟩) m.length xg] 34)) (fun g cs hg => hb2.block g hg.lt))
  have hB4 := Lib.hid (hB2.out.trans (hb3.mono hB2.out.size))
  have hL4 := Lib.hid hb3
  clear hM hC hb2 hb3 hCx hV hCo hA hB
  generalize hW4 : w3.alloc (.cells #[.slice xx l.length x0, .slice (some ⟨xb, 0, none⟩) s.blocks.length xc, .slice (some ⟨xe, 0, none⟩) s.blocks.length xf, .slice (some ⟨xd, 0, none⟩) s.blocks.length s.blocks.length, .slice xv 0 xw, .slice xk 0 xl, .slice (some ⟨xa, 0, none⟩) m.length xg] 34) = W4 at hK4 hM4 hC4 hA4 hB4 hL4
  have HW4 := Lib.hid hW4
  go_wp2_with fail
  clear hW4
  refine (book_yes n f liars cap mcap pcap a ma pa l m pp c s HS.out.2.2.2.2 (fun w hs => hP.out w hs) (HS.out.1.later hB4.out) (HS.out.2.1.later hB4.out) (HS.out.2.2.1.later hB4.out) (HS.out.2.2.2.1.below hgp.out hB4.out) HX.out.2).mono ?_
  intro e w5 hbk
  obtain ⟨yx, y0, yb, yc, ye, yf, yd, yv, yw, ya, yg, ycod, rfl, hM, hCx, hV, hCo, hA, hB⟩ := hbk
  obtain ⟨yk, yl, rfl⟩ := row_len hCo
  have hC := code_row hCx HWF.out.2
  have hb2 : Below w5.heap.size w5 (w5.alloc (.cells #[.slice yx l.length y0, .slice (some ⟨yb, 0, none⟩) s.blocks.length yc, .slice (some ⟨ye, 0, none⟩) s.blocks.length yf, .slice (some ⟨yd, 0, none⟩) s.blocks.length s.blocks.length, .slice yv (paid c s pp).length yw, .slice yk (paid c s pp).length yl, .slice (some ⟨ya, 0, none⟩) m.length yg] 34)) := (Below.refl _ w5).alloc (Nat.le_refl _) _
  have hb3 := hB.trans (hb2.mono hB.size)
  have hK6 := Lib.hid (Blk.new w5 34 #[.slice yx l.length y0, .slice (some ⟨yb, 0, none⟩) s.blocks.length yc, .slice (some ⟨ye, 0, none⟩) s.blocks.length yf, .slice (some ⟨yd, 0, none⟩) s.blocks.length s.blocks.length, .slice yv (paid c s pp).length yw, .slice yk (paid c s pp).length yl, .slice (some ⟨ya, 0, none⟩) m.length yg])
  have hM6 := Lib.hid (hM.later hb2)
  have hC6 := Lib.hid (hC.later hb2)
  have hA6 := Lib.hid (row_turned hA (w' := w5.alloc (.cells #[.slice yx l.length y0, .slice (some ⟨yb, 0, none⟩) s.blocks.length yc, .slice (some ⟨ye, 0, none⟩) s.blocks.length yf, .slice (some ⟨yd, 0, none⟩) s.blocks.length s.blocks.length, .slice yv (paid c s pp).length yw, .slice yk (paid c s pp).length yl, .slice (some ⟨ya, 0, none⟩) m.length yg] 34)) (fun g cs hg => hb2.block g hg.lt))
  have hB6 := Lib.hid (hB4.out.trans (hb3.mono hB4.out.size))
  have hL6 := Lib.hid hb3
  clear hM hC hb2 hb3 hCx hV hCo hA hB
  generalize hW6 : w5.alloc (.cells #[.slice yx l.length y0, .slice (some ⟨yb, 0, none⟩) s.blocks.length yc, .slice (some ⟨ye, 0, none⟩) s.blocks.length yf, .slice (some ⟨yd, 0, none⟩) s.blocks.length s.blocks.length, .slice yv (paid c s pp).length yw, .slice yk (paid c s pp).length yl, .slice (some ⟨ya, 0, none⟩) m.length yg] 34) = W6 at hK6 hM6 hC6 hA6 hB6 hL6
  have hKm := Lib.hid (((hK2.out.below hL4.out hK2.out.lt)).below hL6.out (hK2.out.below hL4.out hK2.out.lt).lt)
  have hKx := Lib.hid (hK4.out.below hL6.out hK4.out.lt)
  have hMm := Lib.hid ((hM2.out.later hL4.out).later hL6.out)
  have hCm := Lib.hid ((hC2.out.later hL4.out).later hL6.out)
  have hMx := Lib.hid (hM4.out.later hL6.out)
  have hCx := Lib.hid (hC4.out.later hL6.out)
  have hAx := Lib.hid (row_turned hA4.out (w' := W6) (fun g cs hg => hL6.out.block g hg.lt))
  have hsl : s.blocks.length ≤ 1000 := by have := HWF.out.1.len40; omega
  have fm0 := hKm.out.cell 0
  have fm1 := hKm.out.cell 1
  have fm2 := hKm.out.cell 2
  have fm3 := hKm.out.cell 3
  simp only [List.getElem?_toArray, List.getElem?_cons_zero, List.getElem?_cons_succ] at fm0 fm1 fm2 fm3
  have fx0 := hKx.out.cell 0
  have fx1 := hKx.out.cell 1
  have fx2 := hKx.out.cell 2
  have fx3 := hKx.out.cell 3
  simp only [List.getElem?_toArray, List.getElem?_cons_zero, List.getElem?_cons_succ] at fx0 fx1 fx2 fx3
  have HW6 := Lib.hid hW6
  go_wp2_with fail
  clear hW6
  refine (meetings_calls HWF.out.2 (by omega) hsl hMx.out hMm.out hCx.out hCm.out).mono ?_
  rintro e w7 ⟨rfl, hb7⟩
  have hB7 := Lib.hid (hB6.out.trans (hb7.mono hB6.out.size))
  have hKx7 := Lib.hid (hKx.out.below hb7 hKx.out.lt)
  have hKm7 := Lib.hid (hKm.out.below hb7 hKm.out.lt)
  have hAx7 := Lib.hid (row_turned hAx.out (w' := w7) (fun g cs hg => hb7.block g hg.lt))
  clear fm0 fm1 fm2 fm3 fx0 fx1 fx2 fx3
  have fx4 := hKx7.out.cell 4
  have fx5 := hKx7.out.cell 5
  have fx6 := hKx7.out.cell 6
  simp only [List.getElem?_toArray, List.getElem?_cons_zero, List.getElem?_cons_succ] at fx4 fx5 fx6
  have zm : ((m.length : Int) != (m.length : Int)) = false := by simp
  have hKy7 := Lib.hid (hK6.out.below hb7 hK6.out.lt)
  have hMm7 := Lib.hid (hMm.out.later hb7)
  have hCm7 := Lib.hid (hCm.out.later hb7)
  have hMy7 := Lib.hid (hM6.out.later hb7)
  have hCy7 := Lib.hid (hC6.out.later hb7)
  have fm0 := hKm7.out.cell 0
  have fm1 := hKm7.out.cell 1
  have fm2 := hKm7.out.cell 2
  have fm3 := hKm7.out.cell 3
  simp only [List.getElem?_toArray, List.getElem?_cons_zero, List.getElem?_cons_succ] at fm0 fm1 fm2 fm3
  have fy0 := hKy7.out.cell 0
  have fy1 := hKy7.out.cell 1
  have fy2 := hKy7.out.cell 2
  have fy3 := hKy7.out.cell 3
  simp only [List.getElem?_toArray, List.getElem?_cons_zero, List.getElem?_cons_succ] at fy0 fy1 fy2 fy3
  clear hb7
  go_wp2_with fail
  refine (meetings_calls HWF.out.2 (by omega) hsl hMy7.out hMm7.out hCy7.out hCm7.out).mono ?_
  rintro e w8 ⟨rfl, hb8⟩
  have hB8 := Lib.hid (hB7.out.trans (hb8.mono hB7.out.size))
  have hKx8 := Lib.hid (hKx7.out.below hb8 hKx7.out.lt)
  have hAx8 := Lib.hid (row_turned hAx7.out (w' := w8) (fun g cs hg => hb8.block g hg.lt))
  clear hb8 fm0 fm1 fm2 fm3 fy0 fy1 fy2 fy3 fx4 fx5 fx6
  have fx6 := hKx8.out.cell 6
  simp only [List.getElem?_toArray, List.getElem?_cons_zero, List.getElem?_cons_succ] at fx6
  have lx := hKx8.out.lt
  have h12 : m.length ≤ 12 := led_len HX.out.1
  go_wp2_with fail
  go_loopw [19] (fun v wr => ∃ k : Nat, v = .int .i64 k ∧ k ≤ m.length ∧ Below w8.heap.size w8 wr) (fun v _ => m.length - (intOf v).toNat)
  case atStart => exact ⟨0, rfl, by omega, Below.refl _ _⟩
  case round =>
    obtain ⟨k, rfl, hk, hbr⟩ := hrel
    have z6 := (hbr.cell (p := ⟨w3.heap.size, 6, none⟩) lx).trans fx6
    by_cases hkl : m.length = k
    · subst hkl
      have hbr' := Lib.hid hbr
      clear hbr
      go_wp2_with fail
      go_ret
      exact ⟨rfl, hB8.out.trans (hbr'.out.mono hB8.out.size)⟩
    · have hk' : k < m.length := by omega
      obtain ⟨ab, rfl, hab, hxx⟩ := HS.out.2.1.row k hk'
      have hxl : m[k]? = some m[k] := List.getElem?_eq_getElem hk'
      have hBr := hB8.out.trans (hbr.mono hB8.out.size)
      have y0 := (hBr.cell (p := ab.add k) (by rw [addr_block]; exact hab)).trans (hxx _ hxl)
      have hkr : k < (Lg.run (start0 m) []).1.length := by simpa [Lg.run, start0] using hk'
      have a0 := (hbr.cell (p := ⟨xa, k * 2, none⟩) (Own.lt hAx8.out)).trans (Own.cell hAx8.out (pairCells_fst _ k hkr))
      have a1 := (hbr.cell (p := ⟨xa, k * 2 + 1, none⟩) (Own.lt hAx8.out)).trans (Own.cell hAx8.out (pairCells_snd _ k hkr))
      have hst : (Lg.run (start0 m) []).1.getD k (0, 0) = (m[k], 0) := by simp [Lg.run, start0, hk']
      rw [hst] at a0 a1
      have hxw := Own.lt hAx8.out
      have hsz := hbr.size
      have habw : ab.block < wr.heap.size := Nat.lt_of_lt_of_le hab hBr.size
      have hbr' := Lib.hid hbr
      have HK := Lib.hid hkl
      clear hbr hBr hxx hxl hkr hst hkl hab
      generalize m[k] = z at y0 a0
      have hzz : (z != z) = false := by simp
      go_wp2_with fail
      go_quiet (fail)
      go_wp2_with fail
      go_roundw
      case measure => simp [intOf]; omega
      exact ⟨k + 1, by simp, by omega, below_drewN hbr'.out nq⟩
end
end Go.Proofs.YtkcekjpohpenkaaDoor
