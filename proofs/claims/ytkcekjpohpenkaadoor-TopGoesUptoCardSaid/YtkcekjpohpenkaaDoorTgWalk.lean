import Derived.Test.YtkcekjpohpenkaaDoorTgOut
import Derived.Test.YtkcekjpohpenkaaDoorMx
import Derived.Deep.OwnRows
import Derived.Sort.QuietIn
/- TopGoes' walk. -/
set_option linter.unusedVariables false
set_option linter.unusedSimpArgs false
set_option maxRecDepth 100000
namespace Go.Proofs.YtkcekjpohpenkaaDoor
open Go.RowKit Mo
section
variable {w : World}

set_option maxHeartbeats 8000000 in
theorem tg_ok (N F liars cap mcap pcap qcap : Nat) (a ma pa qa : Option Addr) (l : List Say) (m : List Int) (pp : List (List Lg.Pay)) (mr : List Lg.Pay) (c : Cfg) (s : St) (hcn : c.n = N) (hcl : c.liars = liars) (hI : Inv c s) (h1 : 1 ≤ N) (h7 : N ≤ 7) (hlr : liars < 2 ^ N) (h120 : l.length ≤ 120) (h12 : m.length ≤ 12)
    (hp : Calls Tryd.prog 6 #[.int .i64 N, .int .i64 F, .int .u32 liars, .slice a l.length cap, .slice ma m.length mcap, .slice pa pp.length pcap] w (BookAt w c s l m (paid c s pp)))
    (hF : Few c F) (hs0 : (run c (Mo.start c) l).1 = s) (hbig : l.length + 4 * N + 2 ≤ 120) (h38 : s.blocks.length + 2 ≤ 40) (hled : ledCode m 0 = 0)
    (hpl : ∀ (w : World) (a : Option Addr) (cap : Nat) (l : List Say), l.length ≤ 120 → SRow w a l → Calls Tryd.prog 9 #[.int .i64 N, .int .i64 F, .int .u32 liars, .slice a l.length cap] w (Met w c l))
    (hs : SRow w a l) (hm : MRow w ma m) (hpp : PPRow w pa pp) (hmr : PRow w qa mr) (hml : mr.length ≤ 1048576) (hg : Laid w) (hcneed : c.need ≤ c.n) :
    Calls Tryd.prog 4 #[.int .i64 N, .int .i64 F, .int .u32 liars, .slice a l.length cap, .slice ma m.length mcap, .slice pa pp.length pcap, .slice qa mr.length qcap] w (Yes w) := by
  have hfew : (pop liars : Int) ≤ F := by have := hF.few; rw [hcl] at this; omega
  have hfew' : decide ((pop liars : Int) ≤ F) = true := by simpa using hfew
  clear hfew
  have hgp := Lib.hid hg.pos
  have HS := Lib.hid (And.intro hs (And.intro hm (And.intro hpp (And.intro hmr hg))))
  have HX := Lib.hid (And.intro hF (And.intro hs0 (And.intro hled (And.intro hpl hcneed))))
  clear hs hm hpp hmr hg hF hs0 hled hpl hcneed
  have hP := Lib.hid hp
  have HI := Lib.hid hI
  have hl1 := hI.wf.len1
  have hl40 := hI.wf.len40
  clear hp hI
  go_enter Tryd.func4, Tryd.ntmps4
  go_wp2_with fail
  refine (hP.out).mono ?_
  intro e w1 hbk
  obtain ⟨cx, cc0, gb, cb, gc, cc, gd, vx, vc, ga, ca, cod, rfl, hM, hCx, hV, hCo, hA, hB⟩ := hbk
  obtain ⟨ck, cn2, rfl⟩ := row_len hCo
  have hb2 : Below w1.heap.size w1 (w1.alloc (.cells #[.slice cx l.length cc0, .slice (some ⟨gb, 0, none⟩) s.blocks.length cb, .slice (some ⟨gc, 0, none⟩) s.blocks.length cc, .slice (some ⟨gd, 0, none⟩) s.blocks.length s.blocks.length, .slice vx (paid c s pp).length vc, .slice ck (paid c s pp).length cn2, .slice (some ⟨ga, 0, none⟩) m.length ca] 34)) := (Below.refl _ w1).alloc (Nat.le_refl _) _
  have hK2 := Lib.hid (Blk.new w1 34 #[.slice cx l.length cc0, .slice (some ⟨gb, 0, none⟩) s.blocks.length cb, .slice (some ⟨gc, 0, none⟩) s.blocks.length cc, .slice (some ⟨gd, 0, none⟩) s.blocks.length s.blocks.length, .slice vx (paid c s pp).length vc, .slice ck (paid c s pp).length cn2, .slice (some ⟨ga, 0, none⟩) m.length ca])
  have hM2 := Lib.hid (hM.later hb2)
  have hV2 := Lib.hid (row_turned hV (w' := w1.alloc (.cells #[.slice cx l.length cc0, .slice (some ⟨gb, 0, none⟩) s.blocks.length cb, .slice (some ⟨gc, 0, none⟩) s.blocks.length cc, .slice (some ⟨gd, 0, none⟩) s.blocks.length s.blocks.length, .slice vx (paid c s pp).length vc, .slice ck (paid c s pp).length cn2, .slice (some ⟨ga, 0, none⟩) m.length ca] 34)) (fun g cs hg => hb2.block g hg.lt))
  have hB2 := Lib.hid (hB.trans (hb2.mono hB.size))
  clear hM hb2 hCx hV hCo hA hB
  generalize hW2 : w1.alloc (.cells #[.slice cx l.length cc0, .slice (some ⟨gb, 0, none⟩) s.blocks.length cb, .slice (some ⟨gc, 0, none⟩) s.blocks.length cc, .slice (some ⟨gd, 0, none⟩) s.blocks.length s.blocks.length, .slice vx (paid c s pp).length vc, .slice ck (paid c s pp).length cn2, .slice (some ⟨ga, 0, none⟩) m.length ca] 34) = W2 at hK2 hM2 hV2 hB2
  have HW2 := Lib.hid hW2
  have k1 := hK2.out.cell 1
  have k2 := hK2.out.cell 2
  have k6 := hK2.out.cell 6
  have kl := hK2.out.lt
  simp only [List.getElem?_toArray, List.getElem?_cons_zero, List.getElem?_cons_succ] at k1 k2 k6
  have zm : ((m.length : Int) != (m.length : Int)) = false := by simp
  have zs : ((s.blocks.length : Int) != (s.blocks.length : Int)) = false := by simp
  have z0 : ((s.blocks.length : Int) == 0) = false := by have : (s.blocks.length : Int) ≠ 0 := by omega
                                                         simpa using this
  go_wp2_with fail
  clear hW2
  refine (few_calls _ liars N F (by omega) hlr).mono ?_
  rw [hfew']
  rintro e w4 ⟨rfl, hw4⟩
  subst hw4
  go_wp2_with fail
  go_loopw [18, 19, 20] (fun v t j wr => ∃ (k b : Nat) (tt : Int), v = .int .i64 b ∧ t = .int .i64 tt ∧ j = .int .i64 k ∧ k ≤ s.blocks.length ∧ Tops c s k tt b ∧ Below W2.heap.size W2 wr) (fun _ _ j _ => s.blocks.length - (intOf j).toNat)
  case atStart => exact ⟨0, 0, 0, rfl, rfl, rfl, by omega, Tops.start HI.out.wf, Below.refl _ _⟩
  case round =>
    obtain ⟨k, b, tt, rfl, rfl, rfl, hk, hT, hbr⟩ := hrel
    have n1 := (hbr.cell (p := ⟨w1.heap.size, 1, none⟩) kl).trans k1
    have n2 := (hbr.cell (p := ⟨w1.heap.size, 2, none⟩) kl).trans k2
    have hbr' := Lib.hid hbr
    have hls := hbr.size
    have nl : w1.heap.size < wr.heap.size := by omega
    have ht0 := hT.t0
    have ht1 := hT.t1
    have hbl := hT.bl
    have hTT := Lib.hid hT
    by_cases hkl : s.blocks.length = k
    · subst hkl
      clear hbr hT n1 n2 k1 k2 k6
      go_wp2_with fail
      generalize hW0 : wr = W0 at hbr' hls nl ⊢
      have HW0 := Lib.hid hW0
      clear hW0
      go_loopw [19, 133] (fun t v wr => ∃ (k : Nat) (t2 : Int), t = .int .i64 t2 ∧ v = .int .i64 k ∧ k ≤ l.length ∧ Late l tt k t2 ∧ Below W2.heap.size W2 wr) (fun _ v _ => l.length - (intOf v).toNat)
      case atStart => exact ⟨0, tt, rfl, rfl, by omega, ⟨by omega, by omega, fun j x hj => by omega⟩, hbr'.out⟩
      case round =>
        obtain ⟨k, t2, rfl, rfl, hk, hL, hbx⟩ := hrel
        have hbx' := Lib.hid hbx
        have hLL := Lib.hid hL
        have q0 := hL.t0
        have q1 := hL.t1
        have hls2 := hbx.size
        by_cases hkl : l.length = k
        · subst hkl
          clear hbx hL
          by_cases ht3 : 1000 < t2 + 3
          · go_wp2_with fail
            go_ret
            exact ⟨rfl, hB2.out.trans (hbx'.out.mono hB2.out.size)⟩
          · have ht3' : t2 + 3 ≤ 1000 := by omega
            have hwsz := hbx'.out.size
            have hB := Lib.hid (hB2.out.trans (hbx'.out.mono hB2.out.size))
            have hsr := Lib.hid ((HS.out.1.later hB.out).later ((Below.refl wr.heap.size wr).alloc (Nat.le_refl _) (.cells #[] 47)))
            have hown0 := Lib.hid (World.ownsRow_made (w := wr) (base := W2.heap.size) (e := 47) (size := 5) #[] 0 hwsz (by unfold maxLen; omega) (by rfl))
            go_wp2_with (at_builtin; refine wpList_append_script rfl (.tmp 157) (.tmp 158) rfl W2.heap.size (.slice (some ⟨wr.heap.size, 0, none⟩) 0 0) 0 [] (by rfl) hown0.out a cap l (by rfl) hsr.out (by omega) (by simp; omega) ?_; intro v5 w5 hown5 hgrow5; have hO5 := Lib.hid hown5; have hG5 := Lib.hid hgrow5; clear hown5 hgrow5)
            have hB5 := Lib.hid ((hbx'.out.alloc hwsz _).grown hG5.out (by simp; omega) (fun k hk => (hown0.out.lt k hk).1))
            obtain ⟨i0, hi0, hz0, hz1, hz2⟩ := info_parts info_say
            have HI0 := Lib.hid (And.intro hi0 (And.intro hz0 (And.intro hz1 hz2)))
            clear hi0 hz0 hz1 hz2 nl
            go_loopw [23, 24] (fun v0 i wr => ∃ (v : Value) (k : Nat), v = v0 ∧ i = .int .i64 k ∧ k ≤ N ∧ wr.ownsRow W2.heap.size 47 5 v (laid3 l b t2 k).length (sayCells (laid3 l b t2 k)) ∧ Below W2.heap.size W2 wr) (fun _ i _ => N - (intOf i).toNat)
            case atStart => exact ⟨_, 0, rfl, rfl, by omega, by simpa [laid3_zero] using hO5.out, hB5.out⟩
            case round =>
              obtain ⟨v, k, rfl, rfl, hk, hO0, hBr0⟩ := hrel
              have hwr := hBr0.size
              have hln : (laid3 l b t2 k).length ≤ 200 := by rw [laid3_length]; omega
              obtain ⟨ll, hll⟩ : ∃ ll, laid3 l b t2 k = ll := ⟨_, rfl⟩
              rw [hll] at hO0 hln
              have HL := Lib.hid hll
              have hO := Lib.hid hO0
              have hBr := Lib.hid hBr0
              clear hll hO0 hBr0
              by_cases hkn : N = k
              · subst hkn
                go_wp2_with (at_builtin; refine wpList_append_lies _ rfl (.tmp 175) (.tmp 180) 23 rfl W2.heap.size 47 i0 _ 5 40 Tryd.underlying23 HI0.out.1 HI0.out.2.1 HI0.out.2.2.1 HI0.out.2.2.2 rfl (by omega) v ll.length (sayCells ll) (by rfl) (hO.out.alloc _) ⟨wr.heap.size, 0, none⟩ 1 1 [.int .i64 1, .int .i64 0, .int .i64 b, .int .i64 (t2 + 2), .int .i64 0] (by rfl) (by rfl) (World.news_of_block (cs := #[.int .i64 1, .int .i64 0, .int .i64 b, .int .i64 (t2 + 2), .int .i64 0]) (t := 47) (fr := (0, 0)) (heap_alloc_new wr _)) (by simp [Value.oneCell']) (by omega) (by unfold maxLen; omega) (by omega) (by simp; omega) (wr.heap.size + 1) (by simp) ?_; intro gg cap6 w6 hown6 hgrow6 hat6 hlt6; have hO6 := Lib.hid hown6; have hB6 := Lib.hid ((hBr.out.alloc hBr.out.size _).grown hgrow6 (Nat.le_trans hwr (by simp)) (fun k hk => (hO.out.lt k hk).1)); clear hown6 hgrow6 hat6)
                clear hO hBr hwr hln
                go_loopw [23, 25] (fun v0 i wr => ∃ (v : Value) (k : Nat), v = v0 ∧ i = .int .i64 k ∧ k ≤ N ∧ wr.ownsRow W2.heap.size 47 5 v (laid4 l N b s.blocks.length t2 k).length (sayCells (laid4 l N b s.blocks.length t2 k)) ∧ Below W2.heap.size W2 wr) (fun _ i _ => N - (intOf i).toNat)
                case atStart => exact ⟨_, 0, rfl, rfl, by omega, by rw [laid4_zero, HL.out]; exact laid_next (ll := ll) (r := [⟨1, 0, b, t2 + 2, 0⟩]) hO6.out, hB6.out⟩
                case round =>
                  obtain ⟨v, k, rfl, rfl, hk, hO0, hBr0⟩ := hrel
                  have hwr := hBr0.size
                  have hln : (laid4 l N b s.blocks.length t2 k).length ≤ 200 := by rw [laid4_length]; omega
                  obtain ⟨ll, hll⟩ : ∃ ll, laid4 l N b s.blocks.length t2 k = ll := ⟨_, rfl⟩
                  rw [hll] at hO0 hln
                  have HL := Lib.hid hll
                  have hO := Lib.hid hO0
                  have hBr := Lib.hid hBr0
                  clear hll hO0 hBr0
                  by_cases hkn : N = k
                  · subst hkn
                    go_wp2_with (at_builtin; refine wpList_append_lies _ rfl (.tmp 193) (.tmp 198) 23 rfl W2.heap.size 47 i0 _ 5 40 Tryd.underlying23 HI0.out.1 HI0.out.2.1 HI0.out.2.2.1 HI0.out.2.2.2 rfl (by omega) v ll.length (sayCells ll) (by rfl) (hO.out.alloc _) ⟨wr.heap.size, 0, none⟩ 1 1 [.int .i64 1, .int .i64 0, .int .i64 s.blocks.length, .int .i64 (t2 + 3), .int .i64 0] (by rfl) (by rfl) (World.news_of_block (cs := #[.int .i64 1, .int .i64 0, .int .i64 s.blocks.length, .int .i64 (t2 + 3), .int .i64 0]) (t := 47) (fr := (0, 0)) (heap_alloc_new wr _)) (by simp [Value.oneCell']) (by omega) (by unfold maxLen; omega) (by omega) (by simp; omega) (wr.heap.size + 1) (by simp) ?_; intro gg cap6 w6 hown6 hgrow6 hat6 hlt6; have hO6 := Lib.hid hown6; have hB6 := Lib.hid ((hBr.out.alloc hBr.out.size _).grown hgrow6 (Nat.le_trans hwr (by simp)) (fun k hk => (hO.out.lt k hk).1)); clear hown6 hgrow6 hat6)
                    clear hO hBr hwr hln
                    go_loopw [23, 26] (fun v0 i wr => ∃ (v : Value) (k : Nat), v = v0 ∧ i = .int .i64 k ∧ k ≤ N ∧ wr.ownsRow W2.heap.size 47 5 v (laid5 l N b s.blocks.length t2 k).length (sayCells (laid5 l N b s.blocks.length t2 k)) ∧ Below W2.heap.size W2 wr) (fun _ i _ => N - (intOf i).toNat)
                    case atStart => exact ⟨_, 0, rfl, rfl, by omega, by rw [laid5_zero, HL.out]; exact laid_next (ll := ll) (r := [⟨1, 0, s.blocks.length, t2 + 3, 0⟩]) hO6.out, hB6.out⟩
                    case round =>
                      obtain ⟨v, k, rfl, rfl, hk, hO0, hBr0⟩ := hrel
                      have hwr := hBr0.size
                      have hln : (laid5 l N b s.blocks.length t2 k).length ≤ 200 := by rw [laid5_length]; omega
                      obtain ⟨ll, hll⟩ : ∃ ll, laid5 l N b s.blocks.length t2 k = ll := ⟨_, rfl⟩
                      rw [hll] at hO0 hln
                      have HL := Lib.hid hll
                      have hO := Lib.hid hO0
                      have hBr := Lib.hid hBr0
                      clear hll hO0 hBr0
                      by_cases hkn : N = k
                      · subst hkn
                        obtain ⟨g9, cap9, hv9, hge9, hlt9⟩ := hO.out.form (show 0 < ll.length by rw [← HL.out, laid5_length]; omega)
                        subst hv9
                        have hln9 : ll.length ≤ 120 := by rw [← HL.out, laid5_length]; omega
                        go_wp2_with fail
                        generalize hW8 : wr = W8 at hO hBr hwr hlt9 ⊢
                        have HW8 := Lib.hid hW8
                        clear hW8
                        obtain ⟨j0, hj0, jz0, jz1, jz2⟩ := info_parts info_pays
                        have HJ := Lib.hid (And.intro hj0 (And.intro jz0 (And.intro jz1 jz2)))
                        clear hj0 jz0 jz1 jz2 hln
                        have hbw8 := Lib.hid (hB2.out.trans (hBr.out.mono hB2.out.size))
                        go_loopw [27, 28] (fun u0 i wr => ∃ (u : Value) (k : Nat) (xs : List Value), u = u0 ∧ i = .int .i64 k ∧ k ≤ s.blocks.length ∧ OwnCells W8 pp k xs ∧ wr.ownsRow W8.heap.size 31 1 u k xs ∧ Below W8.heap.size W8 wr) (fun _ i _ => s.blocks.length - (intOf i).toNat)
                        case atStart => exact ⟨_, 0, [], rfl, rfl, by omega, ⟨rfl, fun i hi => by omega⟩, ⟨rfl, .inl ⟨rfl, rfl⟩⟩, Below.refl _ _⟩
                        case round =>
                          obtain ⟨u, k, xs, rfl, rfl, hk, hxs, hU0, hBw0⟩ := hrel
                          have hwz := hBw0.size
                          have HXS := Lib.hid hxs
                          have hU := Lib.hid hU0
                          have hBw := Lib.hid hBw0
                          clear hxs hU0 hBw0
                          by_cases hka : s.blocks.length = k
                          · subst hka
                            go_wp2_with (at_builtin; refine wpList_append_lies _ rfl (.tmp 231) (.tmp 233) 25 rfl W8.heap.size 31 j0 _ 1 24 Tryd.underlying25 HJ.out.1 HJ.out.2.1 HJ.out.2.2.1 HJ.out.2.2.2 rfl (by omega) u s.blocks.length xs (by rfl) (hU.out.alloc _) ⟨wr.heap.size, 0, none⟩ 1 1 [.slice qa mr.length qcap] (by rfl) (by rfl) (World.news_of_block (cs := #[.slice qa mr.length qcap]) (t := 31) (fr := (0, 0)) (heap_alloc_new wr _)) (by simp [Value.oneCell']) (by omega) (by unfold maxLen; omega) (by omega) (by simp; omega) (wr.heap.size + 1) (by simp) ?_; intro gg cap7 w7 hown7 hgrow7 hat7 hlt7; have hO7 := Lib.hid hown7; have hB7 := Lib.hid ((hBw.out.alloc hBw.out.size _).grown hgrow7 (Nat.le_trans hwz (by simp)) (fun k hk => (hU.out.lt k hk).1)); clear hown7 hgrow7 hat7)
                            have hBw7 := Lib.hid (hbw8.out.trans (hB7.out.mono hbw8.out.size))
                            have hSR := (own_says hO.out).later hB7.out
                            have hPP := own_pays2 ((HXS.out.final (A := qa) (c := qcap) (HS.out.2.2.2.1.later hbw8.out)).later hB7.out) (by simp [ownTo_length]) hO7.out (own_small _ HS.out.2.2.1.sml hml)
                            have hlen : (ownTo pp s.blocks.length ++ [mr]).length = s.blocks.length + 1 := by simp [ownTo_length]
                            obtain ⟨t, ht, hwt, hbt, ct1, ct2⟩ := goes_more (c := c) (l := l) (s := s) (best := b) (top := t2) (by omega) (by omega) HX.out.2.2.2.2 (by rw [hcn, hcl]; exact hlr) HX.out.2.1 hTT.out hLL.out ht3' h38
                            rw [hcn, ← laid5_all, HL.out] at ht
                            have hPl := fun (w : World) (hs : SRow w (some ⟨g9, 0, none⟩) ll) => HX.out.2.2.2.1 w (some ⟨g9, 0, none⟩) cap9 ll hln9 hs
                            have hLd := HS.out.2.2.2.2.below hgp.out hBw7.out
                            have hMR := HS.out.2.1.later hBw7.out
                            by_cases hb9 : bookCode c t m (ownTo pp s.blocks.length ++ [mr]) = 0
                            · have hC0 := book_yes (w := w7) (N : Int) (F : Int) liars cap9 mcap cap7 (some ⟨g9, 0, none⟩) ma (some ⟨gg, 0, none⟩) ll m (ownTo pp s.blocks.length ++ [mr]) c t ht hPl hSR hMR hPP hLd hb9
                              rw [hlen] at hC0
                              obtain ⟨R, hR⟩ := goes_paid HX.out.1 HI.out hwt hbt ct1 ct2 hTT.out hLL.out pp mr
                              have hbd := (book_bounds hb9).2.2
                              rw [hR] at hC0 hbd
                              have hC := Lib.hid hC0
                              have HBD := Lib.hid hbd
                              clear hC0 hbd hR hSR hPP hlen hwt hbt ct1 ct2 hPl hLd hMR hb9 ht
                              refine (hC.out).mono ?_
                              intro e w8 hbk
                              obtain ⟨yx, y0, yb, yc, ye, yf, yd, vy, vd, ya, yg, ycod, rfl, hM9, hCx9, hV9, hCo9, hA9, hB9⟩ := hbk
                              obtain ⟨yk, yl, rfl⟩ := row_len hCo9
                              obtain ⟨ps, hps⟩ : ∃ ps, (paid c s pp ++ R) ++ mr = ps := ⟨_, rfl⟩
                              rw [hps] at hV9
                              have HBD2 := HBD.out
                              rw [hps] at HBD2
                              have hsum : ps.length = (paid c s pp).length + R.length + mr.length := by rw [← hps, List.length_append, List.length_append]
                              rw [hps]
                              obtain ⟨n9, hn9⟩ : ∃ n, ps.length = n := ⟨_, rfl⟩
                              rw [hn9] at hV9 HBD2 hsum
                              rw [hn9]
                              have hb2 : Below w8.heap.size w8 (w8.alloc (.cells #[.slice yx ll.length y0, .slice (some ⟨yb, 0, none⟩) t.blocks.length yc, .slice (some ⟨ye, 0, none⟩) t.blocks.length yf, .slice (some ⟨yd, 0, none⟩) t.blocks.length t.blocks.length, .slice vy n9 vd, .slice yk n9 yl, .slice (some ⟨ya, 0, none⟩) m.length yg] 34)) := (Below.refl _ w8).alloc (Nat.le_refl _) _
                              have hK9 := Lib.hid (Blk.new w8 34 #[.slice yx ll.length y0, .slice (some ⟨yb, 0, none⟩) t.blocks.length yc, .slice (some ⟨ye, 0, none⟩) t.blocks.length yf, .slice (some ⟨yd, 0, none⟩) t.blocks.length t.blocks.length, .slice vy n9 vd, .slice yk n9 yl, .slice (some ⟨ya, 0, none⟩) m.length yg])
                              have hVV := Lib.hid (row_turned hV9 (w' := w8.alloc (.cells #[.slice yx ll.length y0, .slice (some ⟨yb, 0, none⟩) t.blocks.length yc, .slice (some ⟨ye, 0, none⟩) t.blocks.length yf, .slice (some ⟨yd, 0, none⟩) t.blocks.length t.blocks.length, .slice vy n9 vd, .slice yk n9 yl, .slice (some ⟨ya, 0, none⟩) m.length yg] 34)) (fun g cs hg => hb2.block g hg.lt))
                              have hB79 := Lib.hid (hB9.trans (hb2.mono hB9.size))
                              clear hb2 hM9 hCx9 hV9 hCo9 hA9 hB9
                              generalize hW9 : w8.alloc (.cells #[.slice yx ll.length y0, .slice (some ⟨yb, 0, none⟩) t.blocks.length yc, .slice (some ⟨ye, 0, none⟩) t.blocks.length yf, .slice (some ⟨yd, 0, none⟩) t.blocks.length t.blocks.length, .slice vy n9 vd, .slice yk n9 yl, .slice (some ⟨ya, 0, none⟩) m.length yg] 34) = W9 at hK9 hVV hB79
                              have HW9 := Lib.hid hW9
                              have hB29 := Lib.hid (hBr.out.trans ((hB7.out.trans (hB79.out.mono hB7.out.size)).mono hwr))
                              have hBw9 := Lib.hid (hBw7.out.trans (hB79.out.mono hBw7.out.size))
                              have c4 := hK9.out.cell 4
                              have c5 := hK9.out.cell 5
                              have hkb := hK2.out.below hB29.out kl
                              have d4 := hkb.cell 4
                              have lk9 := hK9.out.lt
                              have lk2 := hkb.lt
                              simp only [List.getElem?_toArray, List.getElem?_cons_zero, List.getElem?_cons_succ] at c4 c5 d4
                              have hPA := Lib.hid (HS.out.2.2.2.1.later hBw9.out)
                              have hV29 := Lib.hid (row_turned hV2.out (w' := W9) (fun g cs hg => hB29.out.block g hg.lt))
                              have HPS := Lib.hid (And.intro hps hn9)
                              clear hps hn9 hkb
                              obtain ⟨n2, hn2⟩ : ∃ n2, (paid c s pp).length = n2 := ⟨_, rfl⟩
                              obtain ⟨an, han⟩ : ∃ an, n2 + R.length = an := ⟨_, rfl⟩
                              rw [hn2] at d4 hsum
                              have hsub : (n9 : Int) - (mr.length : Int) = (an : Int) := by omega
                              have hle : (n2 : Int) ≤ (an : Int) := by omega
                              have hle2 : (an : Int) ≤ (n9 : Int) := by omega
                              have hm60 : mr.length ≤ 1000 := by omega
                              have h260 : n2 ≤ 1000 := by omega
                              have hsame : (n9 == n9) = true := by simp
                              have hPX := Lib.hid (row_prow hV29.out rfl)
                              have hpre : (paid c s pp ++ R).length = an := by rw [List.length_append, hn2, han]
                              rcases hVV.out.2 with ⟨hv, hz⟩ | ⟨g', cap', cur, hv, hge', hg', hnc, hmx, hrest⟩
                              · simp only [Value.slice.injEq] at hv
                                obtain ⟨hvy, hn0, hvd⟩ := hv
                                have hm0 : mr.length = 0 := by omega
                                have h20 : n2 = 0 := by omega
                                have ha0 : an = 0 := by omega
                                have hmn : mr = [] := List.length_eq_zero_iff.1 hm0
                                have hpn : paid c s pp = [] := List.length_eq_zero_iff.1 (by omega)
                                have hQ1 := Lib.hid (fun (q : Nat) => pays_calls (w := W9.drewN q) (a := none) (b := qa) (ps := mr) 0 0 0 qcap hm0 hm0 (by rw [hmn]; exact prow_nil _ _) (by rw [hmn]; exact prow_nil _ _) hm60)
                                have hQ2 := Lib.hid (fun (q : Nat) => pays_calls (w := W9.drewN q) (a := none) (b := vx) (ps := paid c s pp) 0 0 0 vc (by omega) (by omega) (by rw [hpn]; exact prow_nil _ _) (by rw [hpn]; exact prow_nil _ _) (by omega))
                                have HZZ := Lib.hid (And.intro hmn (And.intro hpn (And.intro hsum (And.intro hpre (And.intro han hn2)))))
                                subst hvy hvd
                                rw [hz] at c4 c5 hsub hle2 hW9
                                rw [h20] at d4 hle
                                rw [ha0] at hle hle2 hsub
                                clear hmn hpn hsum hpre han hn2
                                go_wp2_with fail
                                clear hW9
                                refine wp_region_quiet_lit (by kernel_rfl) (by kernel_rfl) ?_
                                iterate 11 (go_big_quiet_step (fail))
                                go_big_quiet_step ((go_at_call 8; exact Calls.quiet_of (hQ1.out _)))
                                iterate 10 (go_big_quiet_step (fail))
                                go_big_quiet_step ((go_at_call 8; exact Calls.quiet_of (hQ2.out _)))
                                repeat (go_big_quiet_step (fail))
                                refine wpQuiet_nil ?_
                                intro _ hw'
                                obtain ⟨nq, hw''⟩ := hw'
                                subst hw''
                                go_wp2_with fail
                                go_ret
                                exact ⟨rfl, below_drewN hBw9.out nq⟩
                              · simp only [Value.slice.injEq, true_and] at hv
                                obtain ⟨hvy, hvd⟩ := hv
                                subst hvy hvd
                                have hle3 : (n9 : Int) ≤ (vd : Int) := by omega
                                have hQ1 := Lib.hid (fun (q ca : Nat) (A : Option Addr) (hA : PRow W9 A mr) => pays_calls (w := W9.drewN q) (a := A) (b := qa) (ps := mr) (n9 - an) mr.length ca qcap (by omega) rfl (hA.later (below_drewN (Below.refl _ _) q)) (hPA.out.later (below_drewN (Below.refl _ _) q)) hm60)
                                have hR0 := Lib.hid (fun (h : vd = an) => prow_tail (A := some ⟨g', 0, none⟩) hVV.out HPS.out.1 HPS.out.2 hpre hnc (by rw [if_pos h]))
                                have hR1 := Lib.hid (fun (h : ¬ vd = an) => prow_tail (A := some ⟨g', an * 4, none⟩) hVV.out HPS.out.1 HPS.out.2 hpre hnc (by rw [if_neg h]))
                                have hQ2 := Lib.hid (fun (q : Nat) => pays_calls (w := W9.drewN q) (a := some ⟨g', 0, none⟩) (b := vx) (ps := paid c s pp) n2 n2 vd vc hn2 hn2 ((prow_head (pre := paid c s pp) (qs := R ++ mr) hVV.out (by rw [← HPS.out.1, List.append_assoc]) HPS.out.2).later (below_drewN (Below.refl _ _) q)) (hPX.out.later (below_drewN (Below.refl _ _) q)) (by omega))
                                have HVR := Lib.hid hrest
                                have HGG := Lib.hid hg'
                                have HNN := Lib.hid (And.intro hn2 (And.intro han (And.intro hsum hpre)))
                                clear hrest hg' hn2 han hsum hpre
                                go_wp2_with fail
                                clear hW9
                                refine wp_region_quiet_lit (by kernel_rfl) (by kernel_rfl) ?_
                                iterate 11 (go_big_quiet_step (fail))
                                go_big_quiet_step ((go_at_call 8; refine Calls.quiet_of (hQ1.out _ _ _ ?_); split; exact hR0.out (by omega); exact hR1.out (by omega)))
                                iterate 10 (go_big_quiet_step (fail))
                                go_big_quiet_step ((go_at_call 8; exact Calls.quiet_of (hQ2.out _)))
                                repeat (go_big_quiet_step (fail))
                                refine wpQuiet_nil ?_
                                intro _ hw'
                                obtain ⟨nq, hw''⟩ := hw'
                                subst hw''
                                go_wp2_with fail
                                all_goals (go_ret; exact ⟨rfl, below_drewN hBw9.out nq⟩)
                            · have hC0 := book_no (w := w7) (N : Int) (F : Int) liars cap9 mcap cap7 (some ⟨g9, 0, none⟩) ma (some ⟨gg, 0, none⟩) ll m (ownTo pp s.blocks.length ++ [mr]) c t ht hPl hSR hMR hPP hLd hb9
                              rw [hlen, code7 HX.out.2.2.1 hb9] at hC0
                              have hC := Lib.hid hC0
                              clear hC0 hSR hPP hlen hwt hbt ct1 ct2 hPl hLd hMR hb9 ht
                              refine (hC.out).mono ?_
                              unfold zeroBooked
                              rintro e w8 ⟨rfl, hb8⟩
                              have HB8 := Lib.hid (hBw7.out.trans (hb8.mono hBw7.out.size))
                              clear hb8
                              go_wp2_with fail
                              go_ret
                              exact ⟨rfl, HB8.out.alloc HB8.out.size _⟩
                          · have hka' : k < s.blocks.length := by omega
                            have HK := Lib.hid hka
                            clear hka
                            by_cases hkp : k < pp.length
                            · obtain ⟨ab, rfl, hab, A0, c0, hc0, hp0⟩ := HS.out.2.2.1.row k hkp
                              have hbww := hbw8.out.trans (hBw.out.mono hbw8.out.size)
                              have y0 := (hbww.cell (p := ab.add k) (by rw [addr_block]; exact hab)).trans hc0
                              have habw : ab.block < wr.heap.size := Nat.lt_of_lt_of_le hab hbww.size
                              have HP0 := Lib.hid (hp0.later hbw8.out)
                              obtain ⟨nk, hnk⟩ : ∃ nk, (pp.getD k []).length = nk := ⟨_, rfl⟩
                              rw [hnk] at y0
                              have HNK := Lib.hid hnk
                              clear hbww hc0 hp0 hnk
                              go_wp2_with (at_builtin; refine wpList_append_lies _ rfl (.tmp 221) (.tmp 226) 25 rfl W8.heap.size 31 j0 _ 1 24 Tryd.underlying25 HJ.out.1 HJ.out.2.1 HJ.out.2.2.1 HJ.out.2.2.2 rfl (by omega) u k xs (by rfl) (hU.out.alloc _) ⟨wr.heap.size, 0, none⟩ 1 1 [.slice A0 nk c0] (by rfl) (by rfl) (World.news_of_block (cs := #[.slice A0 nk c0]) (t := 31) (fr := (0, 0)) (heap_alloc_new wr _)) (by simp [Value.oneCell']) (by omega) (by unfold maxLen; omega) (by omega) (by simp; omega) (wr.heap.size + 1) (by simp) ?_; intro gg cap7 w7 hown7 hgrow7 hat7 hlt7; have hO7 := Lib.hid hown7; have hB7 := Lib.hid ((hBw.out.alloc hBw.out.size _).grown hgrow7 (Nat.le_trans hwz (by simp)) (fun k hk => (hU.out.lt k hk).1)); clear hown7 hgrow7 hat7)
                              go_roundw
                              case measure => simp [intOf]; omega
                              exact ⟨_, k + 1, _, rfl, by simp, by omega, by have := HXS.out.snoc (c := c0) HP0.out; rw [HNK.out] at this; exact this, hO7.out, hB7.out⟩
                            · have hemp : pp.getD k [] = [] := by simp [List.getD_eq_getElem?_getD, List.getElem?_eq_none (Nat.not_lt.1 hkp)]
                              have HE := Lib.hid hemp
                              clear hemp
                              go_wp2_with (at_builtin; refine wpList_append_lies _ rfl (.tmp 228) (.tmp 229) 25 rfl W8.heap.size 31 j0 _ 1 24 Tryd.underlying25 HJ.out.1 HJ.out.2.1 HJ.out.2.2.1 HJ.out.2.2.2 rfl (by omega) u k xs (by rfl) (hU.out.alloc _) ⟨wr.heap.size, 0, none⟩ 1 1 [.slice none 0 0] (by rfl) (by rfl) (World.news_of_block (cs := #[.slice none 0 0]) (t := 31) (fr := (0, 0)) (heap_alloc_new wr _)) (by simp [Value.oneCell']) (by omega) (by unfold maxLen; omega) (by omega) (by simp; omega) (wr.heap.size + 1) (by simp) ?_; intro gg cap7 w7 hown7 hgrow7 hat7 hlt7; have hO7 := Lib.hid hown7; have hB7 := Lib.hid ((hBw.out.alloc hBw.out.size _).grown hgrow7 (Nat.le_trans hwz (by simp)) (fun k hk => (hU.out.lt k hk).1)); clear hown7 hgrow7 hat7)
                              go_roundw
                              case measure => simp [intOf]; omega
                              exact ⟨_, k + 1, _, rfl, by simp, by omega, by have := HXS.out.snoc (A := none) (c := 0) (by rw [HE.out]; exact prow_nil _ _); rw [HE.out] at this; exact this, hO7.out, hB7.out⟩
                      · have hkn' : k < N := by omega
                        have HK := Lib.hid hkn
                        clear hkn
                        go_wp2_with (at_builtin; refine wpList_append_lies _ rfl (.tmp 205) (.tmp 210) 23 rfl W2.heap.size 47 i0 _ 5 40 Tryd.underlying23 HI0.out.1 HI0.out.2.1 HI0.out.2.2.1 HI0.out.2.2.2 rfl (by omega) v ll.length (sayCells ll) (by rfl) (hO.out.alloc _) ⟨wr.heap.size, 0, none⟩ 1 1 [.int .i64 2, .int .i64 k, .int .i64 (s.blocks.length + 1), .int .i64 0, .int .i64 0] (by rfl) (by rfl) (World.news_of_block (cs := #[.int .i64 2, .int .i64 k, .int .i64 (s.blocks.length + 1), .int .i64 0, .int .i64 0]) (t := 47) (fr := (0, 0)) (heap_alloc_new wr _)) (by simp [Value.oneCell']) (by omega) (by unfold maxLen; omega) (by omega) (by simp; omega) (wr.heap.size + 1) (by simp) ?_; intro gg cap6 w6 hown6 hgrow6 hat6 hlt6; have hO6 := Lib.hid hown6; have hB6 := Lib.hid ((hBr.out.alloc hBr.out.size _).grown hgrow6 (Nat.le_trans hwr (by simp)) (fun k hk => (hO.out.lt k hk).1)); clear hown6 hgrow6 hat6)
                        go_roundw
                        case measure => simp [intOf]; omega
                        exact ⟨_, k + 1, rfl, by simp, by omega, by rw [laid5_succ, HL.out]; exact laid_next (ll := ll) (r := [⟨2, k, (s.blocks.length : Int) + 1, 0, 0⟩]) hO6.out, hB6.out⟩
                  · have hkn' : k < N := by omega
                    have HK := Lib.hid hkn
                    clear hkn
                    go_wp2_with (at_builtin; refine wpList_append_lies _ rfl (.tmp 187) (.tmp 191) 23 rfl W2.heap.size 47 i0 _ 5 40 Tryd.underlying23 HI0.out.1 HI0.out.2.1 HI0.out.2.2.1 HI0.out.2.2.2 rfl (by omega) v ll.length (sayCells ll) (by rfl) (hO.out.alloc _) ⟨wr.heap.size, 0, none⟩ 1 1 [.int .i64 2, .int .i64 k, .int .i64 s.blocks.length, .int .i64 0, .int .i64 0] (by rfl) (by rfl) (World.news_of_block (cs := #[.int .i64 2, .int .i64 k, .int .i64 s.blocks.length, .int .i64 0, .int .i64 0]) (t := 47) (fr := (0, 0)) (heap_alloc_new wr _)) (by simp [Value.oneCell']) (by omega) (by unfold maxLen; omega) (by omega) (by simp; omega) (wr.heap.size + 1) (by simp) ?_; intro gg cap6 w6 hown6 hgrow6 hat6 hlt6; have hO6 := Lib.hid hown6; have hB6 := Lib.hid ((hBr.out.alloc hBr.out.size _).grown hgrow6 (Nat.le_trans hwr (by simp)) (fun k hk => (hO.out.lt k hk).1)); clear hown6 hgrow6 hat6)
                    go_roundw
                    case measure => simp [intOf]; omega
                    exact ⟨_, k + 1, rfl, by simp, by omega, by rw [laid4_succ, HL.out]; exact laid_next (ll := ll) (r := [⟨2, k, s.blocks.length, 0, 0⟩]) hO6.out, hB6.out⟩
              · have hkn' : k < N := by omega
                have HK := Lib.hid hkn
                clear hkn
                go_wp2_with (at_builtin; refine wpList_append_lies _ rfl (.tmp 165) (.tmp 173) 23 rfl W2.heap.size 47 i0 _ 5 40 Tryd.underlying23 HI0.out.1 HI0.out.2.1 HI0.out.2.2.1 HI0.out.2.2.2 rfl (by omega) v ll.length (sayCells ll) (by rfl) (hO.out.alloc _) ⟨wr.heap.size, 0, none⟩ 2 2 [.int .i64 4, .int .i64 k, .int .i64 b, .int .i64 0, .int .i64 0, .int .i64 3, .int .i64 k, .int .i64 0, .int .i64 (t2 + 1), .int .i64 0] (by rfl) (by rfl) (World.news_of_block (cs := #[.int .i64 4, .int .i64 k, .int .i64 b, .int .i64 0, .int .i64 0, .int .i64 3, .int .i64 k, .int .i64 0, .int .i64 (t2 + 1), .int .i64 0]) (t := 47) (fr := (0, 0)) (heap_alloc_new wr _)) (by simp [Value.oneCell']) (by omega) (by unfold maxLen; omega) (by omega) (by simp; omega) (wr.heap.size + 1) (by simp) ?_; intro gg cap6 w6 hown6 hgrow6 hat6 hlt6; have hO6 := Lib.hid hown6; have hB6 := Lib.hid ((hBr.out.alloc hBr.out.size _).grown hgrow6 (Nat.le_trans hwr (by simp)) (fun k hk => (hO.out.lt k hk).1)); clear hown6 hgrow6 hat6)
                go_roundw
                case measure => simp [intOf]; omega
                exact ⟨_, k + 1, rfl, by simp, by omega, by rw [laid3_succ, HL.out]; exact laid_next (ll := ll) (r := [⟨4, k, b, 0, 0⟩, ⟨3, k, 0, t2 + 1, 0⟩]) hO6.out, hB6.out⟩
        · have hkl' : k < l.length := by omega
          obtain ⟨ab, rfl, hab, hx⟩ := HS.out.1.row k hkl'
          obtain ⟨x, hxl⟩ : ∃ x, l[k]? = some x := ⟨_, List.getElem?_eq_getElem hkl'⟩
          obtain ⟨x0, x1, x2, x3, x4⟩ := hx x hxl
          have hww : Below w.heap.size w wr := hB2.out.trans (hbx.mono hB2.out.size)
          have y0 : wr.cell? (ab.add (k * 5)) = some (.int .i64 x.kind) := (hww.cell (p := ab.add (k * 5)) (by rw [addr_block]; exact hab)).trans x0
          have y1 : wr.cell? ⟨(ab.add (k * 5)).block, (ab.add (k * 5)).off + 1, none⟩ = some (.int .i64 x.who) := by show wr.cell? ((ab.add (k * 5)).add 1) = _; rw [addr_twice]; exact (hww.cell (p := ab.add (k * 5 + 1)) (by rw [addr_block]; exact hab)).trans x1
          have y2 : wr.cell? ⟨(ab.add (k * 5)).block, (ab.add (k * 5)).off + 2, none⟩ = some (.int .i64 x.block) := by show wr.cell? ((ab.add (k * 5)).add 2) = _; rw [addr_twice]; exact (hww.cell (p := ab.add (k * 5 + 2)) (by rw [addr_block]; exact hab)).trans x2
          have y3 : wr.cell? ⟨(ab.add (k * 5)).block, (ab.add (k * 5)).off + 3, none⟩ = some (.int .i64 x.round) := by show wr.cell? ((ab.add (k * 5)).add 3) = _; rw [addr_twice]; exact (hww.cell (p := ab.add (k * 5 + 3)) (by rw [addr_block]; exact hab)).trans x3
          have y4 : wr.cell? ⟨(ab.add (k * 5)).block, (ab.add (k * 5)).off + 4, none⟩ = some (.int .i64 x.high) := by show wr.cell? ((ab.add (k * 5)).add 4) = _; rw [addr_twice]; exact (hww.cell (p := ab.add (k * 5 + 4)) (by rw [addr_block]; exact hab)).trans x4
          have hgw : ab.block < wr.heap.size := Nat.lt_of_lt_of_le hab hww.size
          have hNX := Lib.hid (fun t' => Late.next (t' := t') hL hxl)
          have HXX := Lib.hid (And.intro hkl hxl)
          clear hkl hxl x0 x1 x2 x3 x4 hx hL hbx hww
          obtain ⟨kind, who, block, round, high⟩ := x
          simp only at y0 y1 y2 y3 y4
          by_cases hk3 : kind = 3
          · have hk3' : (kind == 3) = true := by simpa using hk3
            by_cases hr : t2 < round
            · have hr' : decide (t2 < round) = true := by simpa using hr
              by_cases hm : round ≤ 1000
              · have hm' : decide (round ≤ 1000) = true := by simpa using hm
                go_wp2_with fail
                go_roundw
                case measure => simp [intOf]; omega
                exact ⟨k + 1, round, rfl, by simp, by omega, hNX.out _ (.inl ⟨hk3, hr, hm, rfl⟩), hbx'.out.alloc hls2 _⟩
              · have hm' : decide (round ≤ 1000) = false := by simpa using hm
                go_wp2_with fail
                go_roundw
                case measure => simp [intOf]; omega
                exact ⟨k + 1, t2, rfl, by simp, by omega, hNX.out _ (.inr ⟨.inr (.inr (by simp only; omega)), rfl⟩), hbx'.out.alloc hls2 _⟩
            · have hr' : decide (t2 < round) = false := by simpa using hr
              go_wp2_with fail
              go_roundw
              case measure => simp [intOf]; omega
              exact ⟨k + 1, t2, rfl, by simp, by omega, hNX.out _ (.inr ⟨.inr (.inl (by simp only; omega)), rfl⟩), hbx'.out.alloc hls2 _⟩
          · have hk3' : (kind == 3) = false := by simpa using hk3
            go_wp2_with fail
            go_roundw
            case measure => simp [intOf]; omega
            exact ⟨k + 1, t2, rfl, by simp, by omega, hNX.out _ (.inr ⟨.inl hk3, rfl⟩), hbx'.out.alloc hls2 _⟩
    · have hk' : k < s.blocks.length := by omega
      have hne := Lib.hid hkl
      have hM4 := hM2.out.later hbr
      have ck := hM4.cert k hk'
      have rk := hM4.blocks.rnd k hk'
      have rb := hM4.blocks.rnd b hbl
      change wr.cell? ⟨gb, k * 2 + 1, none⟩ = some (.int .i64 (Mo.rnd s k)) at rk
      change wr.cell? ⟨gb, b * 2 + 1, none⟩ = some (.int .i64 (Mo.rnd s b)) at rb
      have hrk := HI.out.wf.rnd k hk'
      have hrb := HI.out.wf.rnd b hbl
      have hnx : ∀ (t' : Int) (b' : Nat), _ → _ → _ := fun t' b' => Tops.next (t' := t') (b' := b') hT HI.out.wf hk'
      have hNX := Lib.hid hnx
      have hgbw := hM4.blocks.gb
      have hgcw := hM4.gc
      clear hM4 hbr hT hkl hnx k1 k2 k6
      generalize Mo.rnd s k = r1 at rk hrk hNX
      generalize Mo.rnd s b = r2 at rb hrb hNX
      generalize certified c s k = b1 at ck hNX
      cases b1 with
      | false =>
        by_cases hlt : tt < r1
        · go_wp2_with fail
          go_quiet (fail)
          go_wp2_with fail
          go_roundw
          case measure => simp [intOf]; omega
          exact ⟨k + 1, b, r1, rfl, rfl, by simp, by omega, hNX.out _ _ (.inl ⟨hlt, rfl⟩) (.inr ⟨.inl (by simp), rfl⟩), below_drewN hbr'.out nq⟩
        · go_wp2_with fail
          go_quiet (fail)
          go_wp2_with fail
          go_roundw
          case measure => simp [intOf]; omega
          exact ⟨k + 1, b, tt, rfl, rfl, by simp, by omega, hNX.out _ _ (.inr ⟨by omega, rfl⟩) (.inr ⟨.inl (by simp), rfl⟩), below_drewN hbr'.out nq⟩
      | true =>
        by_cases hgt : r2 < r1
        · have hgt' : decide (r2 < r1) = true := by simpa using hgt
          by_cases hlt : tt < r1
          · go_wp2_with fail
            go_quiet (fail)
            go_wp2_with fail
            go_roundw
            case measure => simp [intOf]; omega
            exact ⟨k + 1, k, r1, rfl, rfl, by simp, by omega, hNX.out _ _ (.inl ⟨hlt, rfl⟩) (.inl ⟨by simp, hgt, rfl⟩), below_drewN hbr'.out nq⟩
          · go_wp2_with fail
            go_quiet (fail)
            go_wp2_with fail
            go_roundw
            case measure => simp [intOf]; omega
            exact ⟨k + 1, k, tt, rfl, rfl, by simp, by omega, hNX.out _ _ (.inr ⟨by omega, rfl⟩) (.inl ⟨by simp, hgt, rfl⟩), below_drewN hbr'.out nq⟩
        · have hgt' : decide (r2 < r1) = false := by simpa using hgt
          by_cases hlt : tt < r1
          · go_wp2_with fail
            go_quiet (fail)
            go_wp2_with fail
            go_roundw
            case measure => simp [intOf]; omega
            exact ⟨k + 1, b, r1, rfl, rfl, by simp, by omega, hNX.out _ _ (.inl ⟨hlt, rfl⟩) (.inr ⟨.inr (by omega), rfl⟩), below_drewN hbr'.out nq⟩
          · go_wp2_with fail
            go_quiet (fail)
            go_wp2_with fail
            go_roundw
            case measure => simp [intOf]; omega
            exact ⟨k + 1, b, tt, rfl, rfl, by simp, by omega, hNX.out _ _ (.inr ⟨by omega, rfl⟩) (.inr ⟨.inr (by omega), rfl⟩), below_drewN hbr'.out nq⟩
end
end Go.Proofs.YtkcekjpohpenkaaDoor
