import Derived.Test.YtkcekjpohpenkaaGoesOut
/- MootGoes' walk. -/
set_option linter.unusedVariables false
set_option linter.unusedSimpArgs false
namespace Go.Proofs.Ytkcekjpohpenkaa
open Go.RowKit Mo

section
variable {w : World}
set_option maxHeartbeats 2000000 in
set_option maxRecDepth 100000 in
theorem goes_ok (N F need liars cap : Nat) (a : Option Addr) (l : List Say) (s : St) (h1 : 1 ≤ N) (h7 : N ≤ 7) (hF : F ≤ (N - 1) / 3) (hneed : need = N - F) (hl : liars < 2 ^ N) (h120 : l.length + 4 * N + 2 ≤ 120) (hs : SRow w a l)
    (hs0 : (run { n := N, need := need, liars := liars } (Mo.start { n := N, need := need, liars := liars }) l).1 = s)
    (hp : ∀ (w : World) (a : Option Addr) (cap : Nat) (l : List Say), l.length ≤ 120 → SRow w a l → Calls Try.prog 8 #[.int .i64 N, .int .i64 F, .int .u32 liars, .slice a l.length cap] w (Met w { n := N, need := need, liars := liars } l))
    (hfew : (pop liars : Int) ≤ F) (h38 : s.blocks.length + 2 ≤ 40) :
    Calls Try.prog 5 #[.int .i64 N, .int .i64 F, .int .u32 liars, .slice a l.length cap] w (Yes w) := by
  have hP := Lib.hid (hp w a cap l (by omega) hs)
  have hP2 := Lib.hid hp
  clear hp
  have hc0 := Lib.hid (inv_run (inv_start (c := { n := N, need := need, liars := liars }) h1 h7 (by simp only; omega) hl) l)
  have H0 := Lib.hid (And.intro hF (And.intro hneed hs))
  have hS := Lib.hid hs0
  clear hF hneed hs hs0
  have hfew' : decide ((pop liars : Int) ≤ F) = true := by simpa using hfew
  go_enter Try.func5, Try.ntmps5
  go_wp2_with (first
    | (go_at_call 8
       refine (hP.out).mono ?_
       intro e w1 hm
       obtain ⟨s2, cx, cc0, gb, cb, gc, cc, gd, hst, hw, rfl, hM, hcod, hb1⟩ := hm.parts
       obtain rfl : s = s2 := hS.out.symm.trans hst
       have hI := Lib.hid (show Inv _ s from hS.out ▸ hc0.out)
       have hW := Lib.hid hw
       have hM1 := Lib.hid hM
       have hB1 := Lib.hid hb1
       have hb2 := hb1.alloc hb1.size (.cells #[.slice cx l.length cc0, .slice (some ⟨gb, 0, none⟩) s.blocks.length cb, .slice (some ⟨gc, 0, none⟩) s.blocks.length cc, .slice (some ⟨gd, 0, none⟩) s.blocks.length s.blocks.length] 28)
       have hM2 := hM.later ((Below.refl _ w1).alloc (Nat.le_refl _) (.cells #[.slice cx l.length cc0, .slice (some ⟨gb, 0, none⟩) s.blocks.length cb, .slice (some ⟨gc, 0, none⟩) s.blocks.length cc, .slice (some ⟨gd, 0, none⟩) s.blocks.length s.blocks.length] 28))
       have hk2 := Blk.new w1 28 #[.slice cx l.length cc0, .slice (some ⟨gb, 0, none⟩) s.blocks.length cb, .slice (some ⟨gc, 0, none⟩) s.blocks.length cc, .slice (some ⟨gd, 0, none⟩) s.blocks.length s.blocks.length]
       have hMM2 := Lib.hid hM2
       have hBB2 := Lib.hid hb2
       have hKK2 := Lib.hid hk2
       have hmet := Lib.hid (met_calls (cx := cx) (ccap := cc0) (cb := cb) (gc := gc) (cc := cc) (gd := gd) (dc := s.blocks.length) (a := a) (scap := cap) l.length hM2.blocks (WF.chn hw))
       clear hm hM hb1 hb2 hM2 hk2 hst hw hcod)
    | (go_at_call 9
       refine (hmet.out).mono ?_
       rintro e w3 ⟨rfl, hb3⟩
       have hM3 := Lib.hid (hMM2.out.later hb3)
       have hB3 := Lib.hid (hBB2.out.trans (hb3.mono hBB2.out.size))
       have hK3 : Blk w3 _ _ _ := hKK2.out.below hb3 hKK2.out.lt
       have m1 := hK3.cell 1
       have m2 := hK3.cell 2
       have ml := hK3.lt
       simp only [List.getElem?_toArray, List.getElem?_cons_zero, List.getElem?_cons_succ] at m1 m2
       have hKK3 := Lib.hid hK3
       have hfw0 := few_calls w3 liars N F (by omega) hl
       rw [hfew'] at hfw0
       have hfw := Lib.hid hfw0
       clear hfw0
       clear hb3 hK3)
    | (go_at_call 10
       refine (hfw.out).mono ?_
       rintro e w4 ⟨rfl, rfl⟩))
  have sl1 := hW.out.len1
  clear hfew' hfew
  go_loopw [11, 12, 13] (fun t v j wr => ∃ (k b : Nat) (tt : Int), t = .int .i64 tt ∧ v = .int .i64 b ∧ j = .int .i64 k ∧ k ≤ s.blocks.length ∧ Tops { n := N, need := need, liars := liars } s k tt b ∧ Below w3.heap.size w3 wr) (fun _ _ j _ => s.blocks.length - (intOf j).toNat)
  case atStart => exact ⟨0, 0, 0, rfl, rfl, rfl, by omega, Tops.start hW.out, Below.refl _ _⟩
  case round =>
    obtain ⟨k, b, tt, rfl, rfl, rfl, hk, hT, hbr⟩ := hrel
    have n1 := (hbr.cell (p := ⟨w1.heap.size, 1, none⟩) ml).trans m1
    have n2 := (hbr.cell (p := ⟨w1.heap.size, 2, none⟩) ml).trans m2
    have hbr' := Lib.hid hbr
    have hls := hbr.size
    have nl : w1.heap.size < wr.heap.size := by omega
    have ht0 := hT.t0
    have ht1 := hT.t1
    have hbl := hT.bl
    have hTT := Lib.hid hT
    by_cases hkl : k = s.blocks.length
    · subst hkl
      clear hbr hT
      go_wp2_with fail
      have hb0 := Lib.hid (hB3.out.trans (hbr'.out.mono hB3.out.size))
      have hsz := hb0.out.size
      clear n1 n2 hls nl
      generalize hW0 : wr = W0 at hbr' hb0 hsz ⊢
      have HW0 := Lib.hid hW0
      clear hW0
      go_loopw [11, 105] (fun t v wr => ∃ (k : Nat) (t2 : Int), t = .int .i64 t2 ∧ v = .int .i64 k ∧ k ≤ l.length ∧ Late l tt k t2 ∧ Below W0.heap.size W0 wr) (fun _ v _ => l.length - (intOf v).toNat)
      case atStart => exact ⟨0, tt, rfl, rfl, by omega, ⟨by omega, by omega, fun j x hj => by omega⟩, Below.refl _ _⟩
      case round =>
        obtain ⟨k, t2, rfl, rfl, hk, hL, hbx⟩ := hrel
        have hbx' := Lib.hid hbx
        have hLL := Lib.hid hL
        have q0 := hL.t0
        have q1 := hL.t1
        have hls := hbx.size
        by_cases hkl : k = l.length
        · subst hkl
          clear hbx hL
          by_cases ht3 : 1000 < t2 + 3
          · go_wp2_with fail
            go_ret
            exact ⟨rfl, hb0.out.trans (hbx'.out.mono hsz)⟩
          · have ht3' : t2 + 3 ≤ 1000 := by omega
            have hB := Lib.hid (hb0.out.trans (hbx'.out.mono hsz))
            have hB13 := hbr'.out.trans (hbx'.out.mono hbr'.out.size)
            have n1 := (hB13.cell (p := ⟨w1.heap.size, 1, none⟩) ml).trans m1
            have nl : w1.heap.size < wr.heap.size := Nat.lt_of_lt_of_le ml hB13.size
            have hwsz := hB.out.size
            have hsr := Lib.hid ((H0.out.2.2.later hB.out).later ((Below.refl wr.heap.size wr).alloc (Nat.le_refl _) (.cells #[] 42)))
            have hown0 := Lib.hid (World.ownsRow_made (w := wr) (base := w.heap.size) (e := 42) (size := 5) #[] 0 hwsz (by unfold maxLen; omega) (by rfl))
            clear hB13
            go_wp2_with (at_builtin; refine wpList_append_script rfl (.tmp 129) (.tmp 130) rfl w.heap.size (.slice (some ⟨wr.heap.size, 0, none⟩) 0 0) 0 [] (by rfl) hown0.out a cap l (by rfl) hsr.out (by omega) (by simp; omega) ?_; intro v5 w5 hown5 hgrow5; have n5 : w5.cell? ⟨w1.heap.size, 1, none⟩ = some (.slice (some ⟨gb, 0, none⟩) s.blocks.length cb) := (World.grownBy.cell_far hgrow5 _ (by simp; omega) (by simp [Value.ownBlock]; omega)).trans ((World.cell?_alloc_past _ _ _ nl).trans n1); have hO5 := Lib.hid hown5; have hG5 := Lib.hid hgrow5; clear hown5 hgrow5)
            have hB5 := Lib.hid ((hB.out.alloc hwsz _).grown hG5.out (by simp; omega) (fun k hk => (hown0.out.lt k hk).1))
            obtain ⟨i0, hi0, hz0, hz1, hz2⟩ := info_parts info_say
            have HI := Lib.hid (And.intro hi0 (And.intro hz0 (And.intro hz1 hz2)))
            have hbl2 := hTT.out.bl
            clear n1 n5 nl m1 m2 hi0 hz0 hz1 hz2
            go_loopw [16, 18] (fun v0 i wr => ∃ (v : Value) (k : Nat), v = v0 ∧ i = .int .i64 k ∧ k ≤ N ∧ wr.ownsRow w.heap.size 42 5 v (laid3 l b t2 k).length (sayCells (laid3 l b t2 k)) ∧ Below w.heap.size w wr) (fun _ i _ => N - (intOf i).toNat)
            case atStart => exact ⟨_, 0, rfl, rfl, by omega, by simpa [laid3_zero] using hO5.out, hB5.out⟩
            case round =>
              obtain ⟨v, k, rfl, rfl, hk, hO0, hBr0⟩ := hrel
              have hwr := hBr0.size
              have hln : (laid3 l b t2 k).length ≤ 200 := by rw [laid3_length]; omega
              obtain ⟨ll, hll⟩ : ∃ ll, laid3 l b t2 k = ll := ⟨_, rfl⟩
              rw [hll] at hO0 hln
              have HL := Lib.hid hll
              have hO := Lib.hid hO0
              have hBr := Lib.hid hBr0
              clear hll hO0 hBr0
              by_cases hkn : N = k
              · subst hkn
                go_wp2_with (at_builtin; refine wpList_append_lies _ rfl (.tmp 150) (.tmp 155) 23 rfl w.heap.size 42 i0 _ 5 40 Try.underlying23 HI.out.1 HI.out.2.1 HI.out.2.2.1 HI.out.2.2.2 rfl (by omega) v ll.length (sayCells ll) (by rfl) (hO.out.alloc _) ⟨wr.heap.size, 0, none⟩ 1 1 [.int .i64 1, .int .i64 0, .int .i64 b, .int .i64 (t2 + 2), .int .i64 0] (by rfl) (by rfl) (World.news_of_block (cs := #[.int .i64 1, .int .i64 0, .int .i64 b, .int .i64 (t2 + 2), .int .i64 0]) (t := 42) (fr := (0, 0)) (heap_alloc_new wr _)) (by simp [Value.oneCell']) (by omega) (by unfold maxLen; omega) (by omega) (by simp; omega) (wr.heap.size + 1) (by simp) ?_; intro gg cap6 w6 hown6 hgrow6 hat6 hlt6; have hO6 := Lib.hid hown6; have hB6 := Lib.hid ((hBr.out.alloc hBr.out.size _).grown hgrow6 (Nat.le_trans hwr (by simp)) (fun k hk => (hO.out.lt k hk).1)); clear hown6 hgrow6 hat6)
                clear hO hBr hwr hln
                go_loopw [16, 19] (fun v0 i wr => ∃ (v : Value) (k : Nat), v = v0 ∧ i = .int .i64 k ∧ k ≤ N ∧ wr.ownsRow w.heap.size 42 5 v (laid4 l N b s.blocks.length t2 k).length (sayCells (laid4 l N b s.blocks.length t2 k)) ∧ Below w.heap.size w wr) (fun _ i _ => N - (intOf i).toNat)
                case atStart => exact ⟨_, 0, rfl, rfl, by omega, by rw [laid4_zero, HL.out]; exact laid_next (ll := ll) (r := [⟨1, 0, b, t2 + 2, 0⟩]) hO6.out, hB6.out⟩
                case round =>
                  obtain ⟨v, k, rfl, rfl, hk, hO0, hBr0⟩ := hrel
                  have hwr := hBr0.size
                  have hln : (laid4 l N b s.blocks.length t2 k).length ≤ 200 := by rw [laid4_length]; omega
                  obtain ⟨ll, hll⟩ : ∃ ll, laid4 l N b s.blocks.length t2 k = ll := ⟨_, rfl⟩
                  rw [hll] at hO0 hln
                  have HL := Lib.hid hll
                  have hO := Lib.hid hO0
                  have hBr := Lib.hid hBr0
                  clear hll hO0 hBr0
                  by_cases hkn : N = k
                  · subst hkn
                    go_wp2_with (at_builtin; refine wpList_append_lies _ rfl (.tmp 168) (.tmp 173) 23 rfl w.heap.size 42 i0 _ 5 40 Try.underlying23 HI.out.1 HI.out.2.1 HI.out.2.2.1 HI.out.2.2.2 rfl (by omega) v ll.length (sayCells ll) (by rfl) (hO.out.alloc _) ⟨wr.heap.size, 0, none⟩ 1 1 [.int .i64 1, .int .i64 0, .int .i64 s.blocks.length, .int .i64 (t2 + 3), .int .i64 0] (by rfl) (by rfl) (World.news_of_block (cs := #[.int .i64 1, .int .i64 0, .int .i64 s.blocks.length, .int .i64 (t2 + 3), .int .i64 0]) (t := 42) (fr := (0, 0)) (heap_alloc_new wr _)) (by simp [Value.oneCell']) (by omega) (by unfold maxLen; omega) (by omega) (by simp; omega) (wr.heap.size + 1) (by simp) ?_; intro gg cap6 w6 hown6 hgrow6 hat6 hlt6; have hO6 := Lib.hid hown6; have hB6 := Lib.hid ((hBr.out.alloc hBr.out.size _).grown hgrow6 (Nat.le_trans hwr (by simp)) (fun k hk => (hO.out.lt k hk).1)); clear hown6 hgrow6 hat6)
                    clear hO hBr hwr hln
                    go_loopw [16, 20] (fun v0 i wr => ∃ (v : Value) (k : Nat), v = v0 ∧ i = .int .i64 k ∧ k ≤ N ∧ wr.ownsRow w.heap.size 42 5 v (laid5 l N b s.blocks.length t2 k).length (sayCells (laid5 l N b s.blocks.length t2 k)) ∧ Below w.heap.size w wr) (fun _ i _ => N - (intOf i).toNat)
                    case atStart => exact ⟨_, 0, rfl, rfl, by omega, by rw [laid5_zero, HL.out]; exact laid_next (ll := ll) (r := [⟨1, 0, s.blocks.length, t2 + 3, 0⟩]) hO6.out, hB6.out⟩
                    case round =>
                      obtain ⟨v, k, rfl, rfl, hk, hO0, hBr0⟩ := hrel
                      have hwr := hBr0.size
                      have hln : (laid5 l N b s.blocks.length t2 k).length ≤ 200 := by rw [laid5_length]; omega
                      obtain ⟨ll, hll⟩ : ∃ ll, laid5 l N b s.blocks.length t2 k = ll := ⟨_, rfl⟩
                      rw [hll] at hO0 hln
                      have HL := Lib.hid hll
                      have hO := Lib.hid hO0
                      have hBr := Lib.hid hBr0
                      clear hll hO0 hBr0
                      by_cases hkn : N = k
                      · subst hkn
                        obtain ⟨g9, cap9, hv9, _, _⟩ := hO.out.form (show 0 < ll.length by rw [← HL.out, laid5_length]; omega)
                        subst hv9
                        have hE := Lib.hid (goes_end (c := { n := N, need := need, liars := liars }) h1 h7 (by have := H0.out.2.1; simp only; omega) hl hS.out hTT.out hLL.out ht3' h38)
                        have hP9 := Lib.hid (hP2.out wr (some ⟨g9, 0, none⟩) cap9 ll (by rw [← HL.out, laid5_length]; omega) (own_says hO.out))
                        have HLL := Lib.hid (HL.out.symm.trans (laid5_all l N b s.blocks.length t2))
                        clear hwr
                        go_wp2_with (first
                          | (go_at_call 8
                             refine (hP9.out).mono ?_
                             intro e w10 hm
                             obtain ⟨s9, cx9, cc9, gb9, cb9, gc9, cd9, gd9, hst9, hw9, rfl, hM9, hcod9, hb9⟩ := hm.parts
                             have hE9 : GoesEnd { n := N, need := need, liars := liars } s b s9 := by
                               have := hE.out
                               rw [← HLL.out, hst9] at this
                               exact this
                             have le9 := hE9.len
                             have lq9 : ((s9.blocks.length : Int) == (s.blocks.length : Int) + 2) = true := by rw [le9]; simp
                             have LE9 := Lib.hid le9
                             have d1 := hM9.dec s.blocks.length (by omega)
                             have d2 := hM9.dec b (by omega)
                             rw [hE9.da] at d1
                             rw [hE9.db] at d2
                             have i1 : s.blocks.length < s9.blocks.length := by omega
                             have i2 : b < s9.blocks.length := by omega
                             have lgd := hM9.gd
                             have hb10 := Lib.hid (hBr.out.trans (hb9.mono hBr.out.size))
                             have hM10 := hM9.later ((Below.refl _ w10).alloc (Nat.le_refl _) (.cells #[.slice cx9 ll.length cc9, .slice (some ⟨gb9, 0, none⟩) s9.blocks.length cb9, .slice (some ⟨gc9, 0, none⟩) s9.blocks.length cd9, .slice (some ⟨gd9, 0, none⟩) s9.blocks.length s9.blocks.length] 28))
                             have hmet9 := Lib.hid (met_calls (cx := cx9) (ccap := cc9) (cb := cb9) (gc := gc9) (cc := cd9) (gd := gd9) (dc := s9.blocks.length) (a := some ⟨g9, 0, none⟩) (scap := cap9) ll.length hM10.blocks (WF.chn hw9))
                             have hk10 := Lib.hid (Blk.new w10 28 #[.slice cx9 ll.length cc9, .slice (some ⟨gb9, 0, none⟩) s9.blocks.length cb9, .slice (some ⟨gc9, 0, none⟩) s9.blocks.length cd9, .slice (some ⟨gd9, 0, none⟩) s9.blocks.length s9.blocks.length])
                             clear hm hM9 hb9 hst9 hw9 hcod9 hM10 le9 hE9)
                          | (go_at_call 9
                             refine (hmet9.out).mono ?_
                             rintro e w11 ⟨rfl, hb11⟩
                             have hK11 : Blk w11 _ _ _ := hk10.out.below hb11 hk10.out.lt
                             have p1 := hK11.cell 1
                             have p3 := hK11.cell 3
                             have pl := hK11.lt
                             simp only [List.getElem?_toArray, List.getElem?_cons_zero, List.getElem?_cons_succ] at p1 p3
                             have e1 := (hb11.cell (p := ⟨gd9, s.blocks.length, none⟩) (by simp; omega)).trans ((World.cell?_alloc_past _ _ _ lgd).trans d1)
                             have e2 := (hb11.cell (p := ⟨gd9, b, none⟩) (by simp; omega)).trans ((World.cell?_alloc_past _ _ _ lgd).trans d2)
                             have hB11 := Lib.hid ((hb10.out.alloc hb10.out.size (.cells #[.slice cx9 ll.length cc9, .slice (some ⟨gb9, 0, none⟩) s9.blocks.length cb9, .slice (some ⟨gc9, 0, none⟩) s9.blocks.length cd9, .slice (some ⟨gd9, 0, none⟩) s9.blocks.length s9.blocks.length] 28)).trans (hb11.mono (by have := hb10.out.size; simp; omega)))
                             clear hb11 hK11 d1 d2))
                        go_ret
                        exact ⟨rfl, hB11.out⟩
                      · have hkn' : k < N := by omega
                        have HK := Lib.hid hkn
                        clear hkn
                        go_wp2_with (at_builtin; refine wpList_append_lies _ rfl (.tmp 180) (.tmp 185) 23 rfl w.heap.size 42 i0 _ 5 40 Try.underlying23 HI.out.1 HI.out.2.1 HI.out.2.2.1 HI.out.2.2.2 rfl (by omega) v ll.length (sayCells ll) (by rfl) (hO.out.alloc _) ⟨wr.heap.size, 0, none⟩ 1 1 [.int .i64 2, .int .i64 k, .int .i64 (s.blocks.length + 1), .int .i64 0, .int .i64 0] (by rfl) (by rfl) (World.news_of_block (cs := #[.int .i64 2, .int .i64 k, .int .i64 (s.blocks.length + 1), .int .i64 0, .int .i64 0]) (t := 42) (fr := (0, 0)) (heap_alloc_new wr _)) (by simp [Value.oneCell']) (by omega) (by unfold maxLen; omega) (by omega) (by simp; omega) (wr.heap.size + 1) (by simp) ?_; intro gg cap6 w6 hown6 hgrow6 hat6 hlt6; have hO6 := Lib.hid hown6; have hB6 := Lib.hid ((hBr.out.alloc hBr.out.size _).grown hgrow6 (Nat.le_trans hwr (by simp)) (fun k hk => (hO.out.lt k hk).1)); clear hown6 hgrow6 hat6)
                        go_roundw
                        case measure => simp [intOf]; omega
                        exact ⟨_, k + 1, rfl, by simp, by omega, by rw [laid5_succ, HL.out]; exact laid_next (ll := ll) (r := [⟨2, k, (s.blocks.length : Int) + 1, 0, 0⟩]) hO6.out, hB6.out⟩
                  · have hkn' : k < N := by omega
                    have HK := Lib.hid hkn
                    clear hkn
                    go_wp2_with (at_builtin; refine wpList_append_lies _ rfl (.tmp 162) (.tmp 166) 23 rfl w.heap.size 42 i0 _ 5 40 Try.underlying23 HI.out.1 HI.out.2.1 HI.out.2.2.1 HI.out.2.2.2 rfl (by omega) v ll.length (sayCells ll) (by rfl) (hO.out.alloc _) ⟨wr.heap.size, 0, none⟩ 1 1 [.int .i64 2, .int .i64 k, .int .i64 s.blocks.length, .int .i64 0, .int .i64 0] (by rfl) (by rfl) (World.news_of_block (cs := #[.int .i64 2, .int .i64 k, .int .i64 s.blocks.length, .int .i64 0, .int .i64 0]) (t := 42) (fr := (0, 0)) (heap_alloc_new wr _)) (by simp [Value.oneCell']) (by omega) (by unfold maxLen; omega) (by omega) (by simp; omega) (wr.heap.size + 1) (by simp) ?_; intro gg cap6 w6 hown6 hgrow6 hat6 hlt6; have hO6 := Lib.hid hown6; have hB6 := Lib.hid ((hBr.out.alloc hBr.out.size _).grown hgrow6 (Nat.le_trans hwr (by simp)) (fun k hk => (hO.out.lt k hk).1)); clear hown6 hgrow6 hat6)
                    go_roundw
                    case measure => simp [intOf]; omega
                    exact ⟨_, k + 1, rfl, by simp, by omega, by rw [laid4_succ, HL.out]; exact laid_next (ll := ll) (r := [⟨2, k, s.blocks.length, 0, 0⟩]) hO6.out, hB6.out⟩
              · have hkn' : k < N := by omega
                have HK := Lib.hid hkn
                clear hkn
                go_wp2_with (at_builtin; refine wpList_append_lies _ rfl (.tmp 140) (.tmp 148) 23 rfl w.heap.size 42 i0 _ 5 40 Try.underlying23 HI.out.1 HI.out.2.1 HI.out.2.2.1 HI.out.2.2.2 rfl (by omega) v ll.length (sayCells ll) (by rfl) (hO.out.alloc _) ⟨wr.heap.size, 0, none⟩ 2 2 [.int .i64 4, .int .i64 k, .int .i64 b, .int .i64 0, .int .i64 0, .int .i64 3, .int .i64 k, .int .i64 0, .int .i64 (t2 + 1), .int .i64 0] (by rfl) (by rfl) (World.news_of_block (cs := #[.int .i64 4, .int .i64 k, .int .i64 b, .int .i64 0, .int .i64 0, .int .i64 3, .int .i64 k, .int .i64 0, .int .i64 (t2 + 1), .int .i64 0]) (t := 42) (fr := (0, 0)) (heap_alloc_new wr _)) (by simp [Value.oneCell']) (by omega) (by unfold maxLen; omega) (by omega) (by simp; omega) (wr.heap.size + 1) (by simp) ?_; intro gg cap6 w6 hown6 hgrow6 hat6 hlt6; have hO6 := Lib.hid hown6; have hB6 := Lib.hid ((hBr.out.alloc hBr.out.size _).grown hgrow6 (Nat.le_trans hwr (by simp)) (fun k hk => (hO.out.lt k hk).1)); clear hown6 hgrow6 hat6)
                go_roundw
                case measure => simp [intOf]; omega
                exact ⟨_, k + 1, rfl, by simp, by omega, by rw [laid3_succ, HL.out]; exact laid_next (ll := ll) (r := [⟨4, k, b, 0, 0⟩, ⟨3, k, 0, t2 + 1, 0⟩]) hO6.out, hB6.out⟩
        · have hkl' : k < l.length := by omega
          obtain ⟨ab, rfl, hab, hx⟩ := H0.out.2.2.row k hkl'
          obtain ⟨x, hxl⟩ : ∃ x, l[k]? = some x := ⟨_, List.getElem?_eq_getElem hkl'⟩
          obtain ⟨x0, x1, x2, x3, x4⟩ := hx x hxl
          have hww : Below w.heap.size w wr := hb0.out.trans (hbx.mono hsz)
          have y0 : wr.cell? (ab.add (k * 5)) = some (.int .i64 x.kind) := (hww.cell (p := ab.add (k * 5)) (by rw [addr_block]; exact hab)).trans x0
          have y1 : wr.cell? ⟨(ab.add (k * 5)).block, (ab.add (k * 5)).off + 1, none⟩ = some (.int .i64 x.who) := by show wr.cell? ((ab.add (k * 5)).add 1) = _; rw [addr_twice]; exact (hww.cell (p := ab.add (k * 5 + 1)) (by rw [addr_block]; exact hab)).trans x1
          have y2 : wr.cell? ⟨(ab.add (k * 5)).block, (ab.add (k * 5)).off + 2, none⟩ = some (.int .i64 x.block) := by show wr.cell? ((ab.add (k * 5)).add 2) = _; rw [addr_twice]; exact (hww.cell (p := ab.add (k * 5 + 2)) (by rw [addr_block]; exact hab)).trans x2
          have y3 : wr.cell? ⟨(ab.add (k * 5)).block, (ab.add (k * 5)).off + 3, none⟩ = some (.int .i64 x.round) := by show wr.cell? ((ab.add (k * 5)).add 3) = _; rw [addr_twice]; exact (hww.cell (p := ab.add (k * 5 + 3)) (by rw [addr_block]; exact hab)).trans x3
          have y4 : wr.cell? ⟨(ab.add (k * 5)).block, (ab.add (k * 5)).off + 4, none⟩ = some (.int .i64 x.high) := by show wr.cell? ((ab.add (k * 5)).add 4) = _; rw [addr_twice]; exact (hww.cell (p := ab.add (k * 5 + 4)) (by rw [addr_block]; exact hab)).trans x4
          have hgw : ab.block < wr.heap.size := Nat.lt_of_lt_of_le hab hww.size
          have hNX := Lib.hid (fun t' => Late.next (t' := t') hL hxl)
          have HX := Lib.hid (And.intro hkl hxl)
          clear hkl hxl x0 x1 x2 x3 x4 hx hL hbx hww
          obtain ⟨kind, who, block, round, high⟩ := x
          simp only at y0 y1 y2 y3 y4
          by_cases hk3 : kind = 3
          · have hk3' : (kind == 3) = true := by simpa using hk3
            by_cases hr : t2 < round
            · have hr' : decide (t2 < round) = true := by simpa using hr
              by_cases hm : round ≤ 1000
              · have hm' : decide (round ≤ 1000) = true := by simpa using hm
                go_wp2_with fail
                go_roundw
                case measure => simp [intOf]; omega
                exact ⟨k + 1, round, rfl, by simp, by omega, hNX.out _ (.inl ⟨hk3, hr, hm, rfl⟩), hbx'.out.alloc hls _⟩
              · have hm' : decide (round ≤ 1000) = false := by simpa using hm
                go_wp2_with fail
                go_roundw
                case measure => simp [intOf]; omega
                exact ⟨k + 1, t2, rfl, by simp, by omega, hNX.out _ (.inr ⟨.inr (.inr (by simp only; omega)), rfl⟩), hbx'.out.alloc hls _⟩
            · have hr' : decide (t2 < round) = false := by simpa using hr
              go_wp2_with fail
              go_roundw
              case measure => simp [intOf]; omega
              exact ⟨k + 1, t2, rfl, by simp, by omega, hNX.out _ (.inr ⟨.inr (.inl (by simp only; omega)), rfl⟩), hbx'.out.alloc hls _⟩
          · have hk3' : (kind == 3) = false := by simpa using hk3
            go_wp2_with fail
            go_roundw
            case measure => simp [intOf]; omega
            exact ⟨k + 1, t2, rfl, by simp, by omega, hNX.out _ (.inr ⟨.inl hk3, rfl⟩), hbx'.out.alloc hls _⟩
    · have hk' : k < s.blocks.length := by omega
      have hne := Lib.hid hkl
      have hM4 := hM3.out.later hbr
      have ck := hM4.cert k hk'
      have rk := hM4.blocks.rnd k hk'
      have rb := hM4.blocks.rnd b hbl
      change wr.cell? ⟨gb, k * 2 + 1, none⟩ = some (.int .i64 (Mo.rnd s k)) at rk
      change wr.cell? ⟨gb, b * 2 + 1, none⟩ = some (.int .i64 (Mo.rnd s b)) at rb
      have hrk := hW.out.rnd k hk'
      have hrb := hW.out.rnd b hbl
      have hnx : ∀ (t' : Int) (b' : Nat), _ → _ → _ := fun t' b' => Tops.next (t' := t') (b' := b') hT hW.out hk'
      have hNX := Lib.hid hnx
      clear hM4 hbr hT hkl hnx
      generalize Mo.rnd s k = r1 at rk hrk hNX
      generalize Mo.rnd s b = r2 at rb hrb hNX
      generalize certified { n := N, need := need, liars := liars } s k = b1 at ck hNX
      cases b1 with
      | false =>
        by_cases hlt : tt < r1
        · go_wp2_with fail
          go_quiet (fail)
          go_wp2_with fail
          go_roundw
          case measure => simp [intOf]; omega
          exact ⟨k + 1, b, r1, rfl, rfl, by simp, by omega, hNX.out _ _ (.inl ⟨hlt, rfl⟩) (.inr ⟨.inl (by simp), rfl⟩), below_drewN hbr'.out nq⟩
        · go_wp2_with fail
          go_quiet (fail)
          go_wp2_with fail
          go_roundw
          case measure => simp [intOf]; omega
          exact ⟨k + 1, b, tt, rfl, rfl, by simp, by omega, hNX.out _ _ (.inr ⟨by omega, rfl⟩) (.inr ⟨.inl (by simp), rfl⟩), below_drewN hbr'.out nq⟩
      | true =>
        by_cases hgt : r2 < r1
        · have hgt' : decide (r2 < r1) = true := by simpa using hgt
          by_cases hlt : tt < r1
          · go_wp2_with fail
            go_quiet (fail)
            go_wp2_with fail
            go_roundw
            case measure => simp [intOf]; omega
            exact ⟨k + 1, k, r1, rfl, rfl, by simp, by omega, hNX.out _ _ (.inl ⟨hlt, rfl⟩) (.inl ⟨by simp, hgt, rfl⟩), below_drewN hbr'.out nq⟩
          · go_wp2_with fail
            go_quiet (fail)
            go_wp2_with fail
            go_roundw
            case measure => simp [intOf]; omega
            exact ⟨k + 1, k, tt, rfl, rfl, by simp, by omega, hNX.out _ _ (.inr ⟨by omega, rfl⟩) (.inl ⟨by simp, hgt, rfl⟩), below_drewN hbr'.out nq⟩
        · have hgt' : decide (r2 < r1) = false := by simpa using hgt
          by_cases hlt : tt < r1
          · go_wp2_with fail
            go_quiet (fail)
            go_wp2_with fail
            go_roundw
            case measure => simp [intOf]; omega
            exact ⟨k + 1, b, r1, rfl, rfl, by simp, by omega, hNX.out _ _ (.inl ⟨hlt, rfl⟩) (.inr ⟨.inr (by omega), rfl⟩), below_drewN hbr'.out nq⟩
          · go_wp2_with fail
            go_quiet (fail)
            go_wp2_with fail
            go_roundw
            case measure => simp [intOf]; omega
            exact ⟨k + 1, b, tt, rfl, rfl, by simp, by omega, hNX.out _ _ (.inr ⟨by omega, rfl⟩) (.inr ⟨.inr (by omega), rfl⟩), below_drewN hbr'.out nq⟩
end
end Go.Proofs.Ytkcekjpohpenkaa
