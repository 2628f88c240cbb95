import Derived.Test.YtkcekjpohpenkaaDoorBplay
/- book.Play, where the assembly is played. -/
set_option linter.unusedVariables false
set_option linter.unusedSimpArgs false
set_option maxRecDepth 100000
namespace Go.Proofs.YtkcekjpohpenkaaDoor
open Go.RowKit Mo

/-- what the book tells -/
def BookAt (w : World) (c : Cfg) (s : St) (l : List Say) (m : List Int) (ps : List Lg.Pay) (e : Ending) (w' : World) : Prop :=
  ∃ cx cc0 gb cb gc cc gd vx vc ga ca cod, e = .returned (.tuple #[.agg #[.slice cx l.length cc0, .slice (some ⟨gb, 0, none⟩) s.blocks.length cb, .slice (some ⟨gc, 0, none⟩) s.blocks.length cc, .slice (some ⟨gd, 0, none⟩) s.blocks.length s.blocks.length, .slice vx ps.length vc, cod, .slice (some ⟨ga, 0, none⟩) m.length ca], .int .i64 0]) ∧
    MeetAt w' c s gb gc gd ∧ w'.ownsRow w.heap.size 35 1 (.slice cx l.length cc0) l.length (codeCells (run c (Mo.start c) l).2) ∧ w'.ownsRow w.heap.size 41 4 (.slice vx ps.length vc) ps.length (payCells ps) ∧
    w'.ownsRow w.heap.size 35 1 cod ps.length (codeCells (Lg.run (start0 m) ps).2) ∧ Own w' w.heap.size 39 2 ga ca m.length (pairCells (Lg.run (start0 m) ps).1) ∧ Below w.heap.size w w'

theorem fin_heap {w10 : World} {bk B : Nat} {v5 v6 c0 c1 c2 c3 c4 c5 c6 : Value} {k : Nat} (h1 : k ≠ B) (h2 : k ≠ bk) : (put7 ((w10.setCell ⟨bk, 6, none⟩ v6).setCell ⟨bk, 5, none⟩ v5) B c0 c1 c2 c3 c4 c5 c6).heap[k]? = w10.heap[k]? :=
  (heap7 h1).trans ((Below.heap_setCell _ _ _ k h2).trans (Below.heap_setCell _ _ _ k h2))
theorem fin_row {w10 : World} {bk B : Nat} {v5 v6 c0 c1 c2 c3 c4 c5 c6 : Value} {cs1 cs2 : Array Value} (hR : Blk w10 B 34 cs1) (hK : Blk w10 bk 34 cs2) {B' size n : Nat} {e : TypeId} {v : Value} {xs : List Value} (hne : e ≠ 34) (h : w10.ownsRow B' e size v n xs) :
    (put7 ((w10.setCell ⟨bk, 6, none⟩ v6).setCell ⟨bk, 5, none⟩ v5) B c0 c1 c2 c3 c4 c5 c6).ownsRow B' e size v n xs :=
  row_turned h (fun g cs hg => fin_heap (fun e => Blk.ne_ hg hR hne e) (fun e => Blk.ne_ hg hK hne e))

section
variable {w : World}
set_option maxHeartbeats 2000000 in
theorem book_neg_ok (n f : Int) (liars cap mcap pcap : Nat) (a ma pa : Option Addr) (l : List Say) (m : List Int) (pp : List (List Lg.Pay)) (c : Cfg) (s : St) (hs0 : (run c (Mo.start c) l).1 = s)
    (hp : ∀ w : World, SRow w a l → Calls Tryd.prog 9 #[.int .i64 n, .int .i64 f, .int .u32 liars, .slice a l.length cap] w (Met w c l)) (hs : SRow w a l) (hm : MRow w ma m) (hpp : PPRow w pa pp) (hg : Laid w)
    (h0 : m.length ≠ 0) (h12 : m.length ≤ 12) (hbad : m.any bad = false) (hneg : lastTo c s s.blocks.length < 0) :
    Calls Tryd.prog 6 #[.int .i64 n, .int .i64 f, .int .u32 liars, .slice a l.length cap, .slice ma m.length mcap, .slice pa pp.length pcap] w (BookAt w c s l m []) := by
  have hP := Lib.hid hp
  have HS := Lib.hid (And.intro hs (And.intro hm (And.intro hpp (And.intro hg hs0))))
  clear hp hs hm hpp hg hs0
  have hk0 := Lib.hid (Blk.new w 34 noBook)
  have hb0 := Lib.hid ((Below.refl w.heap.size w).alloc (Nat.le_refl _) (.cells noBook 34))
  unfold noBook at hk0 hb0
  have hsz0 : (w.alloc (.cells #[.slice none 0 0, .slice none 0 0, .slice none 0 0, .slice none 0 0, .slice none 0 0, .slice none 0 0, .slice none 0 0] 34)).heap.size = w.heap.size + 1 := by simp
  have HSZ := Lib.hid hsz0
  clear hsz0
  go_enter Tryd.func6, Tryd.ntmps6
  go_wp2_with fail
  refine (hP.out _ (HS.out.1.later hb0.out)).mono ?_
  intro e w1 hmet
  obtain ⟨s2, cx, cc0, gb, cb, gc, cc, gd, hst, hw, rfl, hM, hcod, hb1, gb1, gc1, gd1⟩ := hmet.parts
  obtain rfl : s = s2 := HS.out.2.2.2.2.symm.trans hst
  rw [HSZ.out] at gb1 gc1 gd1 hcod hb1
  have hs1 : w.heap.size + 1 ≤ w1.heap.size := by have := hb1.size; rw [HSZ.out] at this; exact this
  have hb4 : Below w1.heap.size w1 (((w1.alloc (.cells #[.slice cx l.length cc0, .slice (some ⟨gb, 0, none⟩) s.blocks.length cb, .slice (some ⟨gc, 0, none⟩) s.blocks.length cc, .slice (some ⟨gd, 0, none⟩) s.blocks.length s.blocks.length] 30)).alloc (.cells #[.slice cx l.length cc0, .slice (some ⟨gb, 0, none⟩) s.blocks.length cb, .slice (some ⟨gc, 0, none⟩) s.blocks.length cc, .slice (some ⟨gd, 0, none⟩) s.blocks.length s.blocks.length] 55)).alloc (.cells #[.slice cx l.length cc0, .slice (some ⟨gb, 0, none⟩) s.blocks.length cb, .slice (some ⟨gc, 0, none⟩) s.blocks.length cc, .slice (some ⟨gd, 0, none⟩) s.blocks.length s.blocks.length, .slice none 0 0, .slice none 0 0, .slice none 0 0] 34)) := (((Below.refl _ w1).alloc (Nat.le_refl _) _).alloc (by simp) _).alloc (by simp; omega) _
  have hk4 := Blk.new ((w1.alloc (.cells #[.slice cx l.length cc0, .slice (some ⟨gb, 0, none⟩) s.blocks.length cb, .slice (some ⟨gc, 0, none⟩) s.blocks.length cc, .slice (some ⟨gd, 0, none⟩) s.blocks.length s.blocks.length] 30)).alloc (.cells #[.slice cx l.length cc0, .slice (some ⟨gb, 0, none⟩) s.blocks.length cb, .slice (some ⟨gc, 0, none⟩) s.blocks.length cc, .slice (some ⟨gd, 0, none⟩) s.blocks.length s.blocks.length] 55)) 34 #[.slice cx l.length cc0, .slice (some ⟨gb, 0, none⟩) s.blocks.length cb, .slice (some ⟨gc, 0, none⟩) s.blocks.length cc, .slice (some ⟨gd, 0, none⟩) s.blocks.length s.blocks.length, .slice none 0 0, .slice none 0 0, .slice none 0 0]
  rw [World.size_alloc, World.size_alloc] at hk4
  have hsz4 : (((w1.alloc (.cells #[.slice cx l.length cc0, .slice (some ⟨gb, 0, none⟩) s.blocks.length cb, .slice (some ⟨gc, 0, none⟩) s.blocks.length cc, .slice (some ⟨gd, 0, none⟩) s.blocks.length s.blocks.length] 30)).alloc (.cells #[.slice cx l.length cc0, .slice (some ⟨gb, 0, none⟩) s.blocks.length cb, .slice (some ⟨gc, 0, none⟩) s.blocks.length cc, .slice (some ⟨gd, 0, none⟩) s.blocks.length s.blocks.length] 55)).alloc (.cells #[.slice cx l.length cc0, .slice (some ⟨gb, 0, none⟩) s.blocks.length cb, .slice (some ⟨gc, 0, none⟩) s.blocks.length cc, .slice (some ⟨gd, 0, none⟩) s.blocks.length s.blocks.length, .slice none 0 0, .slice none 0 0, .slice none 0 0] 34)).heap.size = w1.heap.size + 3 := by simp
  have hM4 := Lib.hid (hM.later hb4)
  have hC4 := Lib.hid (row_turned hcod (w' := ((w1.alloc (.cells #[.slice cx l.length cc0, .slice (some ⟨gb, 0, none⟩) s.blocks.length cb, .slice (some ⟨gc, 0, none⟩) s.blocks.length cc, .slice (some ⟨gd, 0, none⟩) s.blocks.length s.blocks.length] 30)).alloc (.cells #[.slice cx l.length cc0, .slice (some ⟨gb, 0, none⟩) s.blocks.length cb, .slice (some ⟨gc, 0, none⟩) s.blocks.length cc, .slice (some ⟨gd, 0, none⟩) s.blocks.length s.blocks.length] 55)).alloc (.cells #[.slice cx l.length cc0, .slice (some ⟨gb, 0, none⟩) s.blocks.length cb, .slice (some ⟨gc, 0, none⟩) s.blocks.length cc, .slice (some ⟨gd, 0, none⟩) s.blocks.length s.blocks.length, .slice none 0 0, .slice none 0 0, .slice none 0 0] 34)) (fun g cs hg => hb4.block g hg.lt))
  have hR4 := Lib.hid ((hk0.out.below hb1 (by omega)).below hb4 (by omega))
  have hB4 := Lib.hid ((hb0.out.trans (hb1.mono (by omega))).trans (hb4.mono (by omega)))
  have HW := Lib.hid hw
  have HST := Lib.hid hst
  have hK4 := Lib.hid hk4
  have hmE := Blk.new (w1.alloc (.cells #[.slice cx l.length cc0, .slice (some ⟨gb, 0, none⟩) s.blocks.length cb, .slice (some ⟨gc, 0, none⟩) s.blocks.length cc, .slice (some ⟨gd, 0, none⟩) s.blocks.length s.blocks.length] 30)) 55 #[.slice cx l.length cc0, .slice (some ⟨gb, 0, none⟩) s.blocks.length cb, .slice (some ⟨gc, 0, none⟩) s.blocks.length cc, .slice (some ⟨gd, 0, none⟩) s.blocks.length s.blocks.length]
  rw [World.size_alloc] at hmE
  have hmE4 := Lib.hid (hmE.alloc (.cells #[.slice cx l.length cc0, .slice (some ⟨gb, 0, none⟩) s.blocks.length cb, .slice (some ⟨gc, 0, none⟩) s.blocks.length cc, .slice (some ⟨gd, 0, none⟩) s.blocks.length s.blocks.length, .slice none 0 0, .slice none 0 0, .slice none 0 0] 34))
  have lgb := hM.blocks.gb
  have lgc := hM.gc
  have lgd := hM.gd
  have HM4 := hM4
  clear hmet hM hcod hb1 hb4 hk4 hw hst hmE
  go_wp2_with fail
  generalize ((w1.alloc (.cells #[.slice cx l.length cc0, .slice (some ⟨gb, 0, none⟩) s.blocks.length cb, .slice (some ⟨gc, 0, none⟩) s.blocks.length cc, .slice (some ⟨gd, 0, none⟩) s.blocks.length s.blocks.length] 30)).alloc (.cells #[.slice cx l.length cc0, .slice (some ⟨gb, 0, none⟩) s.blocks.length cb, .slice (some ⟨gc, 0, none⟩) s.blocks.length cc, .slice (some ⟨gd, 0, none⟩) s.blocks.length s.blocks.length] 55)).alloc (.cells #[.slice cx l.length cc0, .slice (some ⟨gb, 0, none⟩) s.blocks.length cb, .slice (some ⟨gc, 0, none⟩) s.blocks.length cc, .slice (some ⟨gd, 0, none⟩) s.blocks.length s.blocks.length, .slice none 0 0, .slice none 0 0, .slice none 0 0] 34) = W4 at hM4 hC4 hR4 hB4 hK4 hmE4 hsz4 HM4 ⊢
  refine (last_calls W4 c s HW.out (.slice cx l.length cc0) gb cb gc cc gd rfl hM4.out).mono ?_
  rintro e w5 ⟨rfl, hb5⟩
  have hM5 := Lib.hid (hM4.out.later hb5)
  have hC5 := Lib.hid (row_turned hC4.out (w' := w5) (fun g cs hg => hb5.block g hg.lt))
  have hR5 := Lib.hid (hR4.out.below hb5 (by omega))
  have hB5 := Lib.hid (hB4.out.trans (hb5.mono hB4.out.size))
  have hK5 := Lib.hid (hK4.out.below hb5 (by omega))
  have hmE5 := Lib.hid (hmE4.out.below hb5 (by omega))
  have hs5 := hb5.size
  clear hb5 hM4 hC4 hR4 hB4 hK4 hmE4 HM4
  have hlv := lastTo_lt c s s.blocks.length
  generalize lastTo c s s.blocks.length = lv at hneg hlv ⊢
  have hge : decide ((0 : Int) ≤ lv) = false := by simp; omega
  have hB4 := hK5.out.cell 1
  have hB5c := hK5.out.cell 4
  simp only [List.getElem?_toArray, List.getElem?_cons_zero, List.getElem?_cons_succ] at hB4 hB5c
  go_wp2_with fail
  have hL := Laid.below HS.out.2.2.2.1 HS.out.2.2.2.1.pos hB5.out
  have hled := Lib.hid (ledger_ok (w := w5) (a := ma) (pa := none) (m := m) (ps := ([] : List Lg.Pay)) (cap := mcap) (pc := 0) h0 h12 (by first | omega | simp) hL (HS.out.2.1.later hB5.out) ⟨fun i hi => absurd hi (by simp)⟩ hbad)
  clear hL
  refine (hled.out).mono ?_
  intro e w10 hl
  obtain ⟨ga, ca, cod, rfl, hA, hCo, hb10⟩ := hl.some
  obtain ⟨ck, cn2, rfl⟩ := row_len hCo
  have hs10 := hb10.size
  have hK10 : Blk w10 _ _ _ := hK5.out.below hb10 (by omega)
  have hR10 : Blk w10 _ _ _ := hR5.out.below hb10 (by omega)
  have hM10 := Lib.hid (hM5.out.later hb10)
  have hC10 := Lib.hid (row_turned hC5.out (w' := w10) (fun g cs hg => hb10.block g hg.lt))
  have hV10 := Lib.hid (row_turned (World.ownsRow_nil w5 w.heap.size 41 4) (w' := w10) (fun g cs hg => hb10.block g hg.lt))
  have hA10 := Lib.hid hA
  have hCo10 := Lib.hid hCo
  have hB10 := Lib.hid (hB5.out.trans (hb10.mono hB5.out.size))
  have kk0 := hK10.cell 0
  have kk1 := hK10.cell 1
  have kk2 := hK10.cell 2
  have kk3 := hK10.cell 3
  have kk4 := hK10.cell 4
  have kk5 := hK10.cell 5
  have kk6 := hK10.cell 6
  have kf5 := hK10.frozen 5
  have kf6 := hK10.frozen 6
  have kl := hK10.lt
  have rr0 := hR10.cell 0
  have rr1 := hR10.cell 1
  have rr2 := hR10.cell 2
  have rr3 := hR10.cell 3
  have rr4 := hR10.cell 4
  have rr5 := hR10.cell 5
  have rr6 := hR10.cell 6
  have rf0 := hR10.frozen 0
  have rf1 := hR10.frozen 1
  have rf2 := hR10.frozen 2
  have rf3 := hR10.frozen 3
  have rf4 := hR10.frozen 4
  have rf5 := hR10.frozen 5
  have rf6 := hR10.frozen 6
  have rl := hR10.lt
  simp only [List.getElem?_toArray, List.getElem?_cons_zero, List.getElem?_cons_succ] at kk0 kk1 kk2 kk3 kk4 kk5 kk6 rr0 rr1 rr2 rr3 rr4 rr5 rr6
  have hne : w1.heap.size + 1 + 1 ≠ w.heap.size := by omega
  have hKK := Lib.hid hK10
  have hRR := Lib.hid hR10
  have hGE := Lib.hid (And.intro gb1 (And.intro gc1 gd1))
  clear hl hA hCo hb10 hK10 hR10
  go_wp2_with fail
  have hfin : Blk (((w10.setCell ⟨w1.heap.size + 1 + 1, 6, none⟩ (.slice (some ⟨ga, 0, none⟩) m.length ca)).setCell ⟨w1.heap.size + 1 + 1, 5, none⟩ (.slice ck (([] : List Lg.Pay)).length cn2))) w.heap.size _ _ := (hRR.out.far (p := ⟨w1.heap.size + 1 + 1, 6, none⟩) (Ne.symm hne) _).far (p := ⟨w1.heap.size + 1 + 1, 5, none⟩) (Ne.symm hne) _
  refine bodyPost_ret (book_ret rfl (set7 hfin) rfl rfl rfl rfl rfl rfl rfl) rfl ?_
  exact ⟨cx, cc0, gb, cb, gc, cc, gd, none, 0, ga, ca, _, rfl, hM10.out.keep (fin_heap (by have := hGE.out; omega) (by omega)) (fin_heap (by have := hGE.out; omega) (by omega)) (fin_heap (by have := hGE.out; omega) (by omega)) (by simp [World.setCell]), fin_row hRR.out hKK.out (by decide) (row_base hC10.out (by omega)), fin_row hRR.out hKK.out (by decide) (row_base hV10.out (by omega)), fin_row hRR.out hKK.out (by decide) (row_base hCo10.out (by omega)), fin_row hRR.out hKK.out (by decide) (row_base hA10.out (by omega)),
    below7 ((hB10.out.setCell (p := ⟨w1.heap.size + 1 + 1, 6, none⟩) (by simp; omega) _).setCell (p := ⟨w1.heap.size + 1 + 1, 5, none⟩) (by simp; omega) _)⟩
end
end Go.Proofs.YtkcekjpohpenkaaDoor
