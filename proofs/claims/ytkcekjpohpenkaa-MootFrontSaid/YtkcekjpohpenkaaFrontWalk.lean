import Derived.Test.YtkcekjpohpenkaaSafeWalk
import Derived.Test.YtkcekjpohpenkaaNf
import Derived.Deep.RegionHeld3
/- MootFront's walk. -/
set_option linter.unusedVariables false
set_option linter.unusedSimpArgs false
namespace Go.Proofs.Ytkcekjpohpenkaa
open Go.RowKit Mo
section
variable {w : World}
set_option maxHeartbeats 1000000 in
set_option maxRecDepth 100000 in
theorem front_ok (N F need liars cap kk : Nat) (a : Option Addr) (l : List Say) (h1 : 1 ≤ N) (h7 : N ≤ 7) (hneed : need = N - F) (hl : liars < 2 ^ N) (h120 : l.length ≤ 120) (hk : kk < 256) (hs : SRow w a l) (hcap : l.length ≤ cap)
    (hp : ∀ (w : World) (a : Option Addr) (cap : Nat) (l : List Say), l.length ≤ 120 → SRow w a l → Calls Try.prog 8 #[.int .i64 N, .int .i64 F, .int .u32 liars, .slice a l.length cap] w (Met w { n := N, need := need, liars := liars } l)) :
    Calls Try.prog 4 #[.int .i64 N, .int .i64 F, .int .u32 liars, .slice a l.length cap, .int .u8 kk] w (Yes w) := by
  have hP := Lib.hid (hp w a cap l h120 hs)
  have hPP := Lib.hid hp
  have HS := Lib.hid hs
  clear hp hs
  have hn' : need ≤ N := by omega
  have e0 := Int.emod_nonneg (kk : Int) (b := (l.length : Int) + 1) (by omega)
  have e1 := Int.emod_lt_of_pos (kk : Int) (b := (l.length : Int) + 1) (by omega)
  obtain ⟨q, hq⟩ := Int.eq_ofNat_of_zero_le e0
  rw [hq] at e0 e1
  have hql : q ≤ l.length := by omega
  clear e0 e1
  have hqc : (q : Int) ≤ cap := by omega
  have hP2 := Lib.hid (fun w (hs : SRow w a (l.take q)) => hPP.out w a cap (l.take q) (by rw [List.length_take]; omega) hs)
  have hlt : (l.take q).length = q := by rw [List.length_take]; omega
  rw [hlt] at hP2
  go_enter Try.func4, Try.ntmps4
  go_wp2_with (first
    | (go_at_call 8
       refine (hP.out).mono ?_
       intro e w1 hm
       obtain ⟨s, cx, cc0, gb, cb, gc, cc, gd, hst, hw, rfl, hM, hcod, hb1⟩ := hm.parts
       have hM1 := Lib.hid (hM.later ((Below.refl _ w1).alloc (Nat.le_refl _) (.cells #[.slice cx l.length cc0, .slice (some ⟨gb, 0, none⟩) s.blocks.length cb, .slice (some ⟨gc, 0, none⟩) s.blocks.length cc, .slice (some ⟨gd, 0, none⟩) s.blocks.length s.blocks.length] 28)))
       have hB1 := Lib.hid (hb1.alloc hb1.size (.cells #[.slice cx l.length cc0, .slice (some ⟨gb, 0, none⟩) s.blocks.length cb, .slice (some ⟨gc, 0, none⟩) s.blocks.length cc, .slice (some ⟨gd, 0, none⟩) s.blocks.length s.blocks.length] 28))
       have hK1 := Lib.hid (Blk.new w1 28 #[.slice cx l.length cc0, .slice (some ⟨gb, 0, none⟩) s.blocks.length cb, .slice (some ⟨gc, 0, none⟩) s.blocks.length cc, .slice (some ⟨gd, 0, none⟩) s.blocks.length s.blocks.length])
       have hW := Lib.hid hw
       have hSt := Lib.hid hst
       clear hm hM hb1 hst hw hcod hP)
    | (go_at_call 8
       refine (hP2.out _ (SRow.take (HS.out.later hB1.out) q)).mono ?_
       intro e w2 hm
       obtain ⟨s2, dx, dc0, hb, db, hc, dc, hd, hst, hw, rfl, hM, hcod, hb2⟩ := hm.parts
       rw [hlt]
       have hM2 := Lib.hid (hM.later ((Below.refl _ w2).alloc (Nat.le_refl _) (.cells #[.slice dx q dc0, .slice (some ⟨hb, 0, none⟩) s2.blocks.length db, .slice (some ⟨hc, 0, none⟩) s2.blocks.length dc, .slice (some ⟨hd, 0, none⟩) s2.blocks.length s2.blocks.length] 28)))
       have hB2 := Lib.hid (hb2.alloc hb2.size (.cells #[.slice dx q dc0, .slice (some ⟨hb, 0, none⟩) s2.blocks.length db, .slice (some ⟨hc, 0, none⟩) s2.blocks.length dc, .slice (some ⟨hd, 0, none⟩) s2.blocks.length s2.blocks.length] 28))
       have hK2 := Lib.hid (Blk.new w2 28 #[.slice dx q dc0, .slice (some ⟨hb, 0, none⟩) s2.blocks.length db, .slice (some ⟨hc, 0, none⟩) s2.blocks.length dc, .slice (some ⟨hd, 0, none⟩) s2.blocks.length s2.blocks.length])
       have hW2 := Lib.hid hw
       have hSt2 := Lib.hid hst
       have hls := hb2.size
       have hbw := Lib.hid hb2
       clear hm hM hb2 hst hw hcod hP2))
  have hG := run_take_grow (c := { n := N, need := need, liars := liars }) h1 h7 (by simp only; omega) hl l q
  rw [hSt.out, hSt2.out] at hG
  have hle := hG.len
  have hle' : decide ((s.blocks.length : Int) < s2.blocks.length) = false := by simp; omega
  have hbel := (Below.refl w2.heap.size w2).alloc (Nat.le_refl _) (.cells #[.slice dx q dc0, .slice (some ⟨hb, 0, none⟩) s2.blocks.length db, .slice (some ⟨hc, 0, none⟩) s2.blocks.length dc, .slice (some ⟨hd, 0, none⟩) s2.blocks.length s2.blocks.length] 28)
  have hM1b := Lib.hid ((hM1.out.later hbw.out).later hbel)
  have hK1b : Blk _ _ _ _ := (hK1.out.below hbw.out hK1.out.lt).below hbel (Nat.lt_of_lt_of_le hK1.out.lt hbw.out.size)
  have hB3 := Lib.hid (hB1.out.trans (hB2.out.mono hB1.out.size))
  have hK2b := hK2.out
  have hM2b := Lib.hid hM2.out
  clear hbel
  generalize w2.alloc (.cells #[.slice dx q dc0, .slice (some ⟨hb, 0, none⟩) s2.blocks.length db, .slice (some ⟨hc, 0, none⟩) s2.blocks.length dc, .slice (some ⟨hd, 0, none⟩) s2.blocks.length s2.blocks.length] 28) = w3 at hM1b hK1b hB3 hK2b hM2b ⊢
  have c0 := hK1b.cell 0
  have c1 := hK1b.cell 1
  have c2 := hK1b.cell 2
  have c3 := hK1b.cell 3
  have d0 := hK2b.cell 0
  have d1 := hK2b.cell 1
  have d2 := hK2b.cell 2
  have d3 := hK2b.cell 3
  simp only [List.getElem?_toArray, List.getElem?_cons_zero, List.getElem?_cons_succ] at c0 c1 c2 c3 d0 d1 d2 d3
  have hKa := Lib.hid hK1b
  have hKb := Lib.hid hK2b
  have hmet1 := Lib.hid (met_calls (w := w3.drewN 1) (cx := cx) (ccap := cc0) (cb := cb) (gc := gc) (cc := cc) (gd := gd) (dc := s.blocks.length) (a := a) (scap := cap) l.length (hM1b.out.later (below_drewN (Below.refl _ w3) 1)).blocks (WF.chn hW.out))
  have hmet2 := Lib.hid (fun (w4 : World) (hb4 : Below w3.heap.size w3 w4) => met_calls (w := w4) (cx := dx) (ccap := dc0) (cb := db) (gc := hc) (cc := dc) (gd := hd) (dc := s2.blocks.length) (a := a) (scap := cap) q (hM2b.out.later hb4).blocks (WF.chn hW2.out))
  clear hK1b hK2b hK1 hK2 hM1 hM2 hB1 hB2
  go_region_held3 (fun w' => w'.cell? ⟨w1.heap.size, 0, none⟩ = some (.slice cx l.length cc0) ∧ w'.cell? ⟨w1.heap.size, 1, none⟩ = some (.slice (some ⟨gb, 0, none⟩) s.blocks.length cb) ∧
      w'.cell? ⟨w1.heap.size, 2, none⟩ = some (.slice (some ⟨gc, 0, none⟩) s.blocks.length cc) ∧ w'.cell? ⟨w1.heap.size, 3, none⟩ = some (.slice (some ⟨gd, 0, none⟩) s.blocks.length s.blocks.length) ∧
      w'.cell? ⟨w2.heap.size, 0, none⟩ = some (.slice dx q dc0) ∧ w'.cell? ⟨w2.heap.size, 1, none⟩ = some (.slice (some ⟨hb, 0, none⟩) s2.blocks.length db) ∧
      w'.cell? ⟨w2.heap.size, 2, none⟩ = some (.slice (some ⟨hc, 0, none⟩) s2.blocks.length dc) ∧ w'.cell? ⟨w2.heap.size, 3, none⟩ = some (.slice (some ⟨hd, 0, none⟩) s2.blocks.length s2.blocks.length))
    (go_keep)
    (first
      | (go_at_call 9
         refine (hmet1.out).mono ?_
         rintro e w4 ⟨rfl, hb4⟩
         clear hmet1
         have hb4' := below_of_drewN hb4
         have k1 : Blk w4 _ _ _ := hKa.out.below hb4' hKa.out.lt
         have k2 : Blk w4 _ _ _ := hKb.out.below hb4' hKb.out.lt
         have c0' := k1.cell 0
         have c1' := k1.cell 1
         have c2' := k1.cell 2
         have c3' := k1.cell 3
         have d0' := k2.cell 0
         have d1' := k2.cell 1
         have d2' := k2.cell 2
         have d3' := k2.cell 3
         simp only [List.getElem?_toArray, List.getElem?_cons_zero, List.getElem?_cons_succ] at c0' c1' c2' c3' d0' d1' d2' d3'
         have hBx := Lib.hid hb4'
         clear hb4 hb4' k1 k2)
      | (go_at_call 9
         refine (hmet2.out w4 hBx.out).mono ?_
         rintro e w5 ⟨rfl, hb5⟩
         clear hmet2
         have hb5' := hBx.out.trans (hb5.mono hBx.out.size)
         have k1 : Blk w5 _ _ _ := hKa.out.below hb5' hKa.out.lt
         have k2 : Blk w5 _ _ _ := hKb.out.below hb5' hKb.out.lt
         have c0'' := k1.cell 0
         have c1'' := k1.cell 1
         have c2'' := k1.cell 2
         have c3'' := k1.cell 3
         have d0'' := k2.cell 0
         have d1'' := k2.cell 1
         have d2'' := k2.cell 2
         have d3'' := k2.cell 3
         simp only [List.getElem?_toArray, List.getElem?_cons_zero, List.getElem?_cons_succ] at c0'' c1'' c2'' c3'' d0'' d1'' d2'' d3''
         have hB5 := Lib.hid hb5'
         clear hb5 hb5' k1 k2))
  go_wp2_with fail
  have l40 := hW.out.len40
  have ml1 := hKa.out.lt
  have ml2 := hKb.out.lt
  have hGG := Lib.hid hG
  clear hG
  go_loopw [16] (fun v wr => ∃ i : Nat, v = .int .i64 i ∧ i ≤ s2.blocks.length ∧ Below w3.heap.size w3 wr) (fun v _ => s2.blocks.length - (intOf v).toNat)
  case atStart => exact ⟨0, rfl, by omega, hB5.out⟩
  case round =>
    obtain ⟨i, rfl, hi, hbr⟩ := hrel
    have hA1 := hKa.out.below hbr hKa.out.lt
    have hA2 := hKb.out.below hbr hKb.out.lt
    have n1 := hA1.cell 1
    have n2 := hA1.cell 2
    have n3 := hA1.cell 3
    have o1 := hA2.cell 1
    have o2 := hA2.cell 2
    have o3 := hA2.cell 3
    simp only [List.getElem?_toArray, List.getElem?_cons_zero, List.getElem?_cons_succ] at n1 n2 n3 o1 o2 o3
    have hMr := hM1b.out.later hbr
    have hMs := hM2b.out.later hbr
    have hbr' := Lib.hid hbr
    have lwr := hbr.size
    by_cases hil : i = s2.blocks.length
    · subst hil
      clear hbr hMr hMs hA1 hA2 n2 n3 o2 o3
      go_wp2_with fail
      go_ret
      exact ⟨rfl, hB3.out.trans (hbr'.out.mono hB3.out.size)⟩
    · have hil' : i < s2.blocks.length := by omega
      have hil1 : i < s.blocks.length := by omega
      have ci := hMr.cert i hil1
      have di := hMr.dec i hil1
      have ri := hMr.blocks.rnd i hil1
      have pi := hMr.blocks.par i hil1
      have cj := hMs.cert i hil'
      have dj := hMs.dec i hil'
      have rj := hMs.blocks.rnd i hil'
      have pj := hMs.blocks.par i hil'
      rw [hGG.out.blk i hil'] at ri pi
      have hx1 : certified { n := N, need := need, liars := liars } s2 i = true → certified { n := N, need := need, liars := liars } s i = true := fun h => hGG.out.cert hil' h
      have hx2 : (decided { n := N, need := need, liars := liars } s2).getD i false = true → (decided { n := N, need := need, liars := liars } s).getD i false = true := fun h => decided_grow hW2.out hW.out hGG.out h
      have hne := Lib.hid hil
      clear hbr hMr hMs hA1 hA2 hil
      generalize (s2.blocks.getD i (0, 0)).1 = z1 at pi pj
      generalize (s2.blocks.getD i (0, 0)).2 = z2 at ri rj
      generalize certified { n := N, need := need, liars := liars } s2 i = b1 at cj hx1
      generalize certified { n := N, need := need, liars := liars } s i = b2 at ci hx1
      generalize (decided { n := N, need := need, liars := liars } s2).getD i false = b3 at dj hx2
      generalize (decided { n := N, need := need, liars := liars } s).getD i false = b4 at di hx2
      cases b1 <;> cases b2 <;> cases b3 <;> cases b4
      all_goals first
        | (exfalso; exact absurd (hx1 rfl) (by decide))
        | (exfalso; exact absurd (hx2 rfl) (by decide))
        | skip
      all_goals clear hx1 hx2
      all_goals go_wp2_with fail
      all_goals go_quiet (fail)
      all_goals go_wp2_with fail
      all_goals exact ⟨⟨i + 1, by simp, by omega, below_drewN hbr'.out nq⟩, by simp [intOf]; omega⟩
end
end Go.Proofs.Ytkcekjpohpenkaa
