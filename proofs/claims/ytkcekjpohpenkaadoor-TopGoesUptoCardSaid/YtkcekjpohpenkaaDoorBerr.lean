import Derived.Test.YtkcekjpohpenkaaDoorBpos
/- book.Play, where the assembly is played. -/
set_option linter.unusedVariables false
set_option linter.unusedSimpArgs false
set_option maxRecDepth 100000
namespace Go.Proofs.YtkcekjpohpenkaaDoor
open Go.RowKit Mo

section
variable {w : World}
set_option maxHeartbeats 2000000 in
theorem book_neg_led (n f : Int) (liars cap mcap pcap : Nat) (a ma pa : Option Addr) (l : List Say) (m : List Int) (pp : List (List Lg.Pay)) (c : Cfg) (s : St) (hs0 : (run c (Mo.start c) l).1 = s)
    (hp : ∀ w : World, SRow w a l → Calls Tryd.prog 9 #[.int .i64 n, .int .i64 f, .int .u32 liars, .slice a l.length cap] w (Met w c l)) (hs : SRow w a l) (hm : MRow w ma m) (hpp : PPRow w pa pp) (hg : Laid w)
    (code : Int) (hcode : code ≠ 0) (hled : ∀ (W : World) (x : Option Addr) (k : Nat), MRow W ma m → Calls Tryd.prog 14 #[.slice ma m.length mcap, .slice x 0 k] W fun e w' => e = .returned (.tuple #[.slice none 0 0, .slice none 0 0, .int .i64 code]) ∧ W = w') (hneg : lastTo c s s.blocks.length < 0) :
    Calls Tryd.prog 6 #[.int .i64 n, .int .i64 f, .int .u32 liars, .slice a l.length cap, .slice ma m.length mcap, .slice pa pp.length pcap] w (fun e w' => e = .returned (.tuple #[zeroBooked, .int .i64 code]) ∧ Below w.heap.size w w') := by
  have HLE := Lib.hid hled
  clear hled
  have hP := Lib.hid hp
  have HS := Lib.hid (And.intro hs (And.intro hm (And.intro hpp (And.intro hg hs0))))
  clear hp hs hm hpp hg hs0
  have hk0 := Lib.hid (Blk.new w 34 noBook)
  have hb0 := Lib.hid ((Below.refl w.heap.size w).alloc (Nat.le_refl _) (.cells noBook 34))
  unfold noBook at hk0 hb0
  have hsz0 : (w.alloc (.cells #[.slice none 0 0, .slice none 0 0, .slice none 0 0, .slice none 0 0, .slice none 0 0, .slice none 0 0, .slice none 0 0] 34)).heap.size = w.heap.size + 1 := by simp
  have HSZ := Lib.hid hsz0
  clear hsz0
  go_enter Tryd.func6, Tryd.ntmps6
  go_wp2_with fail
  refine (hP.out _ (HS.out.1.later hb0.out)).mono ?_
  intro e w1 hmet
  obtain ⟨s2, cx, cc0, gb, cb, gc, cc, gd, hst, hw, rfl, hM, hcod, hb1, gb1, gc1, gd1⟩ := hmet.parts
  obtain rfl : s = s2 := HS.out.2.2.2.2.symm.trans hst
  rw [HSZ.out] at gb1 gc1 gd1 hcod hb1
  have hs1 : w.heap.size + 1 ≤ w1.heap.size := by have := hb1.size; rw [HSZ.out] at this; exact this
  have hb4 : Below w1.heap.size w1 (((w1.alloc (.cells #[.slice cx l.length cc0, .slice (some ⟨gb, 0, none⟩) s.blocks.length cb, .slice (some ⟨gc, 0, none⟩) s.blocks.length cc, .slice (some ⟨gd, 0, none⟩) s.blocks.length s.blocks.length] 30)).alloc (.cells #[.slice cx l.length cc0, .slice (some ⟨gb, 0, none⟩) s.blocks.length cb, .slice (some ⟨gc, 0, none⟩) s.blocks.length cc, .slice (some ⟨gd, 0, none⟩) s.blocks.length s.blocks.length] 55)).alloc (.cells #[.slice cx l.length cc0, .slice (some ⟨gb, 0, none⟩) s.blocks.length cb, .slice (some ⟨gc, 0, none⟩) s.blocks.length cc, .slice (some ⟨gd, 0, none⟩) s.blocks.length s.blocks.length, .slice none 0 0, .slice none 0 0, .slice none 0 0] 34)) := (((Below.refl _ w1).alloc (Nat.le_refl _) _).alloc (by simp) _).alloc (by simp; omega) _
  have hk4 := Blk.new ((w1.alloc (.cells #[.slice cx l.length cc0, .slice (some ⟨gb, 0, none⟩) s.blocks.length cb, .slice (some ⟨gc, 0, none⟩) s.blocks.length cc, .slice (some ⟨gd, 0, none⟩) s.blocks.length s.blocks.length] 30)).alloc (.cells #[.slice cx l.length cc0, .slice (some ⟨gb, 0, none⟩) s.blocks.length cb, .slice (some ⟨gc, 0, none⟩) s.blocks.length cc, .slice (some ⟨gd, 0, none⟩) s.blocks.length s.blocks.length] 55)) 34 #[.slice cx l.length cc0, .slice (some ⟨gb, 0, none⟩) s.blocks.length cb, .slice (some ⟨gc, 0, none⟩) s.blocks.length cc, .slice (some ⟨gd, 0, none⟩) s.blocks.length s.blocks.length, .slice none 0 0, .slice none 0 0, .slice none 0 0]
  rw [World.size_alloc, World.size_alloc] at hk4
  have hsz4 : (((w1.alloc (.cells #[.slice cx l.length cc0, .slice (some ⟨gb, 0, none⟩) s.blocks.length cb, .slice (some ⟨gc, 0, none⟩) s.blocks.length cc, .slice (some ⟨gd, 0, none⟩) s.blocks.length s.blocks.length] 30)).alloc (.cells #[.slice cx l.length cc0, .slice (some ⟨gb, 0, none⟩) s.blocks.length cb, .slice (some ⟨gc, 0, none⟩) s.blocks.length cc, .slice (some ⟨gd, 0, none⟩) s.blocks.length s.blocks.length] 55)).alloc (.cells #[.slice cx l.length cc0, .slice (some ⟨gb, 0, none⟩) s.blocks.length cb, .slice (some ⟨gc, 0, none⟩) s.blocks.length cc, .slice (some ⟨gd, 0, none⟩) s.blocks.length s.blocks.length, .slice none 0 0, .slice none 0 0, .slice none 0 0] 34)).heap.size = w1.heap.size + 3 := by simp
  have hM4 := Lib.hid (hM.later hb4)
  have hC4 := Lib.hid (row_turned hcod (w' := ((w1.alloc (.cells #[.slice cx l.length cc0, .slice (some ⟨gb, 0, none⟩) s.blocks.length cb, .slice (some ⟨gc, 0, none⟩) s.blocks.length cc, .slice (some ⟨gd, 0, none⟩) s.blocks.length s.blocks.length] 30)).alloc (.cells #[.slice cx l.length cc0, .slice (some ⟨gb, 0, none⟩) s.blocks.length cb, .slice (some ⟨gc, 0, none⟩) s.blocks.length cc, .slice (some ⟨gd, 0, none⟩) s.blocks.length s.blocks.length] 55)).alloc (.cells #[.slice cx l.length cc0, .slice (some ⟨gb, 0, none⟩) s.blocks.length cb, .slice (some ⟨gc, 0, none⟩) s.blocks.length cc, .slice (some ⟨gd, 0, none⟩) s.blocks.length s.blocks.length, .slice none 0 0, .slice none 0 0, .slice none 0 0] 34)) (fun g cs hg => hb4.block g hg.lt))
  have hR4 := Lib.hid ((hk0.out.below hb1 (by omega)).below hb4 (by omega))
  have hB4 := Lib.hid ((hb0.out.trans (hb1.mono (by omega))).trans (hb4.mono (by omega)))
  have HW := Lib.hid hw
  have HST := Lib.hid hst
  have hK4 := Lib.hid hk4
  have hmE := Blk.new (w1.alloc (.cells #[.slice cx l.length cc0, .slice (some ⟨gb, 0, none⟩) s.blocks.length cb, .slice (some ⟨gc, 0, none⟩) s.blocks.length cc, .slice (some ⟨gd, 0, none⟩) s.blocks.length s.blocks.length] 30)) 55 #[.slice cx l.length cc0, .slice (some ⟨gb, 0, none⟩) s.blocks.length cb, .slice (some ⟨gc, 0, none⟩) s.blocks.length cc, .slice (some ⟨gd, 0, none⟩) s.blocks.length s.blocks.length]
  rw [World.size_alloc] at hmE
  have hmE4 := Lib.hid (hmE.alloc (.cells #[.slice cx l.length cc0, .slice (some ⟨gb, 0, none⟩) s.blocks.length cb, .slice (some ⟨gc, 0, none⟩) s.blocks.length cc, .slice (some ⟨gd, 0, none⟩) s.blocks.length s.blocks.length, .slice none 0 0, .slice none 0 0, .slice none 0 0] 34))
  have lgb := hM.blocks.gb
  have lgc := hM.gc
  have lgd := hM.gd
  have HM4 := hM4
  clear hmet hM hcod hb1 hb4 hk4 hw hst hmE
  go_wp2_with fail
  generalize ((w1.alloc (.cells #[.slice cx l.length cc0, .slice (some ⟨gb, 0, none⟩) s.blocks.length cb, .slice (some ⟨gc, 0, none⟩) s.blocks.length cc, .slice (some ⟨gd, 0, none⟩) s.blocks.length s.blocks.length] 30)).alloc (.cells #[.slice cx l.length cc0, .slice (some ⟨gb, 0, none⟩) s.blocks.length cb, .slice (some ⟨gc, 0, none⟩) s.blocks.length cc, .slice (some ⟨gd, 0, none⟩) s.blocks.length s.blocks.length] 55)).alloc (.cells #[.slice cx l.length cc0, .slice (some ⟨gb, 0, none⟩) s.blocks.length cb, .slice (some ⟨gc, 0, none⟩) s.blocks.length cc, .slice (some ⟨gd, 0, none⟩) s.blocks.length s.blocks.length, .slice none 0 0, .slice none 0 0, .slice none 0 0] 34) = W4 at hM4 hC4 hR4 hB4 hK4 hmE4 hsz4 HM4 ⊢
  refine (last_calls W4 c s HW.out (.slice cx l.length cc0) gb cb gc cc gd rfl hM4.out).mono ?_
  rintro e w5 ⟨rfl, hb5⟩
  have hM5 := Lib.hid (hM4.out.later hb5)
  have hC5 := Lib.hid (row_turned hC4.out (w' := w5) (fun g cs hg => hb5.block g hg.lt))
  have hR5 := Lib.hid (hR4.out.below hb5 (by omega))
  have hB5 := Lib.hid (hB4.out.trans (hb5.mono hB4.out.size))
  have hK5 := Lib.hid (hK4.out.below hb5 (by omega))
  have hmE5 := Lib.hid (hmE4.out.below hb5 (by omega))
  have hs5 := hb5.size
  clear hb5 hM4 hC4 hR4 hB4 hK4 hmE4 HM4
  have hlv := lastTo_lt c s s.blocks.length
  generalize lastTo c s s.blocks.length = lv at hneg hlv ⊢
  have hge : decide ((0 : Int) ≤ lv) = false := by simp; omega
  have hB4 := hK5.out.cell 1
  have hB5c := hK5.out.cell 4
  simp only [List.getElem?_toArray, List.getElem?_cons_zero, List.getElem?_cons_succ] at hB4 hB5c
  go_wp2_with fail
  refine (HLE.out w5 _ _ (HS.out.2.1.later hB5.out)).mono ?_
  rintro e w10 ⟨rfl, rfl⟩
  have kf5 := hK5.out.frozen 5
  have kf6 := hK5.out.frozen 6
  have kk5 := hK5.out.cell 5
  have kk6 := hK5.out.cell 6
  have kl := hK5.out.lt
  simp only [List.getElem?_toArray, List.getElem?_cons_zero, List.getElem?_cons_succ] at kk5 kk6
  have hne : w1.heap.size + 1 + 1 ≠ w.heap.size := by omega
  have rr0 := hR5.out.cell 0
  have rr1 := hR5.out.cell 1
  have rr2 := hR5.out.cell 2
  have rr3 := hR5.out.cell 3
  have rr4 := hR5.out.cell 4
  have rr5 := hR5.out.cell 5
  have rr6 := hR5.out.cell 6
  have rf0 := hR5.out.frozen 0
  have rf1 := hR5.out.frozen 1
  have rf2 := hR5.out.frozen 2
  have rf3 := hR5.out.frozen 3
  have rf4 := hR5.out.frozen 4
  have rf5 := hR5.out.frozen 5
  have rf6 := hR5.out.frozen 6
  have rl := hR5.out.lt
  simp only [List.getElem?_toArray, List.getElem?_cons_zero, List.getElem?_cons_succ] at rr0 rr1 rr2 rr3 rr4 rr5 rr6
  have hc1 : (code != 0) = true := by simpa using hcode
  go_wp2_with fail
  have hfin : Blk ((w5.setCell ⟨w1.heap.size + 1 + 1, 6, none⟩ (.slice none 0 0)).setCell ⟨w1.heap.size + 1 + 1, 5, none⟩ (.slice none 0 0)) w.heap.size _ _ := (hR5.out.far (p := ⟨w1.heap.size + 1 + 1, 6, none⟩) (Ne.symm hne) _).far (p := ⟨w1.heap.size + 1 + 1, 5, none⟩) (Ne.symm hne) _
  refine bodyPost_ret (book_ret rfl (set7 hfin) rfl rfl rfl rfl rfl rfl rfl) rfl ?_
  exact ⟨rfl, below7 ((hB5.out.setCell (p := ⟨w1.heap.size + 1 + 1, 6, none⟩) (by simp; omega) _).setCell (p := ⟨w1.heap.size + 1 + 1, 5, none⟩) (by simp; omega) _)⟩
set_option maxHeartbeats 4000000 in
theorem book_pos_full (n f : Int) (liars cap mcap pcap : Nat) (a ma pa : Option Addr) (l : List Say) (m : List Int) (pp : List (List Lg.Pay)) (c : Cfg) (s : St) (hs0 : (run c (Mo.start c) l).1 = s)
    (hp : ∀ w : World, SRow w a l → Calls Tryd.prog 9 #[.int .i64 n, .int .i64 f, .int .u32 liars, .slice a l.length cap] w (Met w c l)) (hs : SRow w a l) (hm : MRow w ma m) (hpp : PPRow w pa pp) (hg : Laid w)
    (h60 : 60 < (gather pp (path s.blocks (lastTo c s s.blocks.length))).length) (hpos : 0 ≤ lastTo c s s.blocks.length) :
    Calls Tryd.prog 6 #[.int .i64 n, .int .i64 f, .int .u32 liars, .slice a l.length cap, .slice ma m.length mcap, .slice pa pp.length pcap] w (fun e w' => e = .returned (.tuple #[zeroBooked, .int .i64 7]) ∧ Below w.heap.size w w') := by
  have hP := Lib.hid hp
  have HS := Lib.hid (And.intro hs (And.intro hm (And.intro hpp (And.intro hg hs0))))
  clear hp hs hm hpp hg hs0
  have hk0 := Lib.hid (Blk.new w 34 noBook)
  have hb0 := Lib.hid ((Below.refl w.heap.size w).alloc (Nat.le_refl _) (.cells noBook 34))
  unfold noBook at hk0 hb0
  have hsz0 : (w.alloc (.cells #[.slice none 0 0, .slice none 0 0, .slice none 0 0, .slice none 0 0, .slice none 0 0, .slice none 0 0, .slice none 0 0] 34)).heap.size = w.heap.size + 1 := by simp
  have HSZ := Lib.hid hsz0
  clear hsz0
  go_enter Tryd.func6, Tryd.ntmps6
  go_wp2_with fail
  refine (hP.out _ (HS.out.1.later hb0.out)).mono ?_
  intro e w1 hmet
  obtain ⟨s2, cx, cc0, gb, cb, gc, cc, gd, hst, hw, rfl, hM, hcod, hb1, gb1, gc1, gd1⟩ := hmet.parts
  obtain rfl : s = s2 := HS.out.2.2.2.2.symm.trans hst
  rw [HSZ.out] at gb1 gc1 gd1 hcod hb1
  have hs1 : w.heap.size + 1 ≤ w1.heap.size := by have := hb1.size; rw [HSZ.out] at this; exact this
  have hb4 : Below w1.heap.size w1 (((w1.alloc (.cells #[.slice cx l.length cc0, .slice (some ⟨gb, 0, none⟩) s.blocks.length cb, .slice (some ⟨gc, 0, none⟩) s.blocks.length cc, .slice (some ⟨gd, 0, none⟩) s.blocks.length s.blocks.length] 30)).alloc (.cells #[.slice cx l.length cc0, .slice (some ⟨gb, 0, none⟩) s.blocks.length cb, .slice (some ⟨gc, 0, none⟩) s.blocks.length cc, .slice (some ⟨gd, 0, none⟩) s.blocks.length s.blocks.length] 55)).alloc (.cells #[.slice cx l.length cc0, .slice (some ⟨gb, 0, none⟩) s.blocks.length cb, .slice (some ⟨gc, 0, none⟩) s.blocks.length cc, .slice (some ⟨gd, 0, none⟩) s.blocks.length s.blocks.length, .slice none 0 0, .slice none 0 0, .slice none 0 0] 34)) := (((Below.refl _ w1).alloc (Nat.le_refl _) _).alloc (by simp) _).alloc (by simp; omega) _
  have hk4 := Blk.new ((w1.alloc (.cells #[.slice cx l.length cc0, .slice (some ⟨gb, 0, none⟩) s.blocks.length cb, .slice (some ⟨gc, 0, none⟩) s.blocks.length cc, .slice (some ⟨gd, 0, none⟩) s.blocks.length s.blocks.length] 30)).alloc (.cells #[.slice cx l.length cc0, .slice (some ⟨gb, 0, none⟩) s.blocks.length cb, .slice (some ⟨gc, 0, none⟩) s.blocks.length cc, .slice (some ⟨gd, 0, none⟩) s.blocks.length s.blocks.length] 55)) 34 #[.slice cx l.length cc0, .slice (some ⟨gb, 0, none⟩) s.blocks.length cb, .slice (some ⟨gc, 0, none⟩) s.blocks.length cc, .slice (some ⟨gd, 0, none⟩) s.blocks.length s.blocks.length, .slice none 0 0, .slice none 0 0, .slice none 0 0]
  rw [World.size_alloc, World.size_alloc] at hk4
  have hsz4 : (((w1.alloc (.cells #[.slice cx l.length cc0, .slice (some ⟨gb, 0, none⟩) s.blocks.length cb, .slice (some ⟨gc, 0, none⟩) s.blocks.length cc, .slice (some ⟨gd, 0, none⟩) s.blocks.length s.blocks.length] 30)).alloc (.cells #[.slice cx l.length cc0, .slice (some ⟨gb, 0, none⟩) s.blocks.length cb, .slice (some ⟨gc, 0, none⟩) s.blocks.length cc, .slice (some ⟨gd, 0, none⟩) s.blocks.length s.blocks.length] 55)).alloc (.cells #[.slice cx l.length cc0, .slice (some ⟨gb, 0, none⟩) s.blocks.length cb, .slice (some ⟨gc, 0, none⟩) s.blocks.length cc, .slice (some ⟨gd, 0, none⟩) s.blocks.length s.blocks.length, .slice none 0 0, .slice none 0 0, .slice none 0 0] 34)).heap.size = w1.heap.size + 3 := by simp
  have hM4 := Lib.hid (hM.later hb4)
  have hC4 := Lib.hid (row_turned hcod (w' := ((w1.alloc (.cells #[.slice cx l.length cc0, .slice (some ⟨gb, 0, none⟩) s.blocks.length cb, .slice (some ⟨gc, 0, none⟩) s.blocks.length cc, .slice (some ⟨gd, 0, none⟩) s.blocks.length s.blocks.length] 30)).alloc (.cells #[.slice cx l.length cc0, .slice (some ⟨gb, 0, none⟩) s.blocks.length cb, .slice (some ⟨gc, 0, none⟩) s.blocks.length cc, .slice (some ⟨gd, 0, none⟩) s.blocks.length s.blocks.length] 55)).alloc (.cells #[.slice cx l.length cc0, .slice (some ⟨gb, 0, none⟩) s.blocks.length cb, .slice (some ⟨gc, 0, none⟩) s.blocks.length cc, .slice (some ⟨gd, 0, none⟩) s.blocks.length s.blocks.length, .slice none 0 0, .slice none 0 0, .slice none 0 0] 34)) (fun g cs hg => hb4.block g hg.lt))
  have hR4 := Lib.hid ((hk0.out.below hb1 (by omega)).below hb4 (by omega))
  have hB4 := Lib.hid ((hb0.out.trans (hb1.mono (by omega))).trans (hb4.mono (by omega)))
  have HW := Lib.hid hw
  have HST := Lib.hid hst
  have hK4 := Lib.hid hk4
  have hmE := Blk.new (w1.alloc (.cells #[.slice cx l.length cc0, .slice (some ⟨gb, 0, none⟩) s.blocks.length cb, .slice (some ⟨gc, 0, none⟩) s.blocks.length cc, .slice (some ⟨gd, 0, none⟩) s.blocks.length s.blocks.length] 30)) 55 #[.slice cx l.length cc0, .slice (some ⟨gb, 0, none⟩) s.blocks.length cb, .slice (some ⟨gc, 0, none⟩) s.blocks.length cc, .slice (some ⟨gd, 0, none⟩) s.blocks.length s.blocks.length]
  rw [World.size_alloc] at hmE
  have hmE4 := Lib.hid (hmE.alloc (.cells #[.slice cx l.length cc0, .slice (some ⟨gb, 0, none⟩) s.blocks.length cb, .slice (some ⟨gc, 0, none⟩) s.blocks.length cc, .slice (some ⟨gd, 0, none⟩) s.blocks.length s.blocks.length, .slice none 0 0, .slice none 0 0, .slice none 0 0] 34))
  have lgb := hM.blocks.gb
  have lgc := hM.gc
  have lgd := hM.gd
  have HM4 := hM4
  clear hmet hM hcod hb1 hb4 hk4 hw hst hmE
  go_wp2_with fail
  generalize ((w1.alloc (.cells #[.slice cx l.length cc0, .slice (some ⟨gb, 0, none⟩) s.blocks.length cb, .slice (some ⟨gc, 0, none⟩) s.blocks.length cc, .slice (some ⟨gd, 0, none⟩) s.blocks.length s.blocks.length] 30)).alloc (.cells #[.slice cx l.length cc0, .slice (some ⟨gb, 0, none⟩) s.blocks.length cb, .slice (some ⟨gc, 0, none⟩) s.blocks.length cc, .slice (some ⟨gd, 0, none⟩) s.blocks.length s.blocks.length] 55)).alloc (.cells #[.slice cx l.length cc0, .slice (some ⟨gb, 0, none⟩) s.blocks.length cb, .slice (some ⟨gc, 0, none⟩) s.blocks.length cc, .slice (some ⟨gd, 0, none⟩) s.blocks.length s.blocks.length, .slice none 0 0, .slice none 0 0, .slice none 0 0] 34) = W4 at hM4 hC4 hR4 hB4 hK4 hmE4 hsz4 HM4 ⊢
  refine (last_calls W4 c s HW.out (.slice cx l.length cc0) gb cb gc cc gd rfl hM4.out).mono ?_
  rintro e w5 ⟨rfl, hb5⟩
  have hM5 := Lib.hid (hM4.out.later hb5)
  have hC5 := Lib.hid (row_turned hC4.out (w' := w5) (fun g cs hg => hb5.block g hg.lt))
  have hR5 := Lib.hid (hR4.out.below hb5 (by omega))
  have hB5 := Lib.hid (hB4.out.trans (hb5.mono hB4.out.size))
  have hK5 := Lib.hid (hK4.out.below hb5 (by omega))
  have hmE5 := Lib.hid (hmE4.out.below hb5 (by omega))
  have hs5 := hb5.size
  clear hb5 hM4 hC4 hR4 hB4 hK4 hmE4 HM4
  have hlv := lastTo_lt c s s.blocks.length
  obtain ⟨j, hj⟩ := Int.eq_ofNat_of_zero_le hpos
  rw [hj] at hlv
  have hjl : j < s.blocks.length := by omega
  have hb41 := hmE5.out.cell 1
  simp only [List.getElem?_toArray, List.getElem?_cons_zero, List.getElem?_cons_succ] at hb41
  have hlm := hmE5.out.lt
  have HJ := Lib.hid hj
  rw [hj]
  clear hj
  go_wp2_with fail
  refine (chainPath_calls w5 gb cb s.blocks (WF.chn HW.out) hM5.out.blocks j hjl).mono ?_
  rintro e w6 ⟨gp, cp, rfl, hOp, hb6⟩
  have hM6 := Lib.hid (hM5.out.later hb6)
  have hC6 := Lib.hid (row_turned hC5.out (w' := w6) (fun g cs hg => hb6.block g hg.lt))
  have hR6 := Lib.hid (hR5.out.below hb6 (by omega))
  have hB6 := Lib.hid (hB5.out.trans (hb6.mono hB5.out.size))
  have hK6 := Lib.hid (hK5.out.below hb6 (by omega))
  have hs6 := hb6.size
  have hOP := Lib.hid hOp
  have hgp := hOp.lt
  have hge6 := hOp.ge
  have hpl : (path s.blocks j).length ≤ 41 := by
    unfold path
    rw [List.length_reverse]
    exact Nat.le_trans (ups_len _ _) (by have := HW.out.len40; omega)
  have hsml := HS.out.2.2.1.sml
  have hgl := gather_le pp hsml
  have HGL := Lib.hid (And.intro hsml hgl)
  clear hOp hb6 hM5 hC5 hR5 hB5 hK5 hmE5 hb41 hsml hgl hlm
  generalize hpth : path s.blocks j = pth at hOP hpl ⊢
  have HPTH := Lib.hid hpth
  clear hpth
  go_wp2_with fail
  go_loopw [53] (fun i wr => ∃ (k : Nat) (v : Value), i = .int .i64 k ∧ k ≤ pth.length ∧ Blk wr (w1.heap.size + 1 + 1) 34 #[.slice cx l.length cc0, .slice (some ⟨gb, 0, none⟩) s.blocks.length cb, .slice (some ⟨gc, 0, none⟩) s.blocks.length cc, .slice (some ⟨gd, 0, none⟩) s.blocks.length s.blocks.length, v, .slice none 0 0, .slice none 0 0] ∧ wr.ownsRow w6.heap.size 41 4 v (gather pp (pth.take k)).length (payCells (gather pp (pth.take k))) ∧ w6.grownBy wr (some (w1.heap.size + 1 + 1))) (fun i _ => pth.length - (intOf i).toNat)
  case atStart => exact ⟨0, _, rfl, by omega, hK6.out, World.ownsRow_nil _ _ _ _, World.grownBy.refl _ _⟩
  case round =>
    obtain ⟨k, v, rfl, hk, hKr, hOr, hGr⟩ := hrel
    obtain ⟨vx, vc, hv⟩ := row_len hOr
    subst hv
    have hKR := Lib.hid hKr
    have hOR := Lib.hid hOr
    have hGR := Lib.hid hGr
    have k4 := hKr.cell 4
    have kf4 := hKr.frozen 4
    have kl4 := hKr.lt
    simp only [List.getElem?_toArray, List.getElem?_cons_zero, List.getElem?_cons_succ] at k4
    have hsr := hGr.size
    by_cases hkl : pth.length = k
    · subst hkl
      clear hKr hOr hGr
      rw [List.take_length] at hKR hOR k4
      have hBR := Lib.hid (show Below w.heap.size w wr from ⟨hGR.out.os.trans hB6.out.os, hGR.out.tape.trans hB6.out.tape, hGR.out.output.trans hB6.out.output, Nat.le_trans hB6.out.size hsr, fun i hi => (hGR.out.block i (by omega) (by simp; omega)).trans (hB6.out.block i hi)⟩)
      have hRR := Lib.hid (hR6.out.grown hGR.out (by simp; omega))
      have hMR := Lib.hid (hM6.out.keep (hGR.out.block gb (by omega) (by simp; omega)) (hGR.out.block gc (by omega) (by simp; omega)) (hGR.out.block gd (by omega) (by simp; omega)) hsr)
      have hCR := Lib.hid (row_turned hC6.out (w' := wr) (fun g cs hg => hGR.out.block g hg.lt (fun e => by cases e; exact Blk.ne_ hg hK6.out (by decide) rfl)))
      have h60' : 60 < (gather pp pth).length := by rw [← HPTH.out]; rw [HJ.out] at h60; exact h60
      clear h60
      have rr0 := hRR.out.cell 0
      have rr1 := hRR.out.cell 1
      have rr2 := hRR.out.cell 2
      have rr3 := hRR.out.cell 3
      have rr4 := hRR.out.cell 4
      have rr5 := hRR.out.cell 5
      have rr6 := hRR.out.cell 6
      have rf0 := hRR.out.frozen 0
      have rf1 := hRR.out.frozen 1
      have rf2 := hRR.out.frozen 2
      have rf3 := hRR.out.frozen 3
      have rf4 := hRR.out.frozen 4
      have rf5 := hRR.out.frozen 5
      have rf6 := hRR.out.frozen 6
      have rl := hRR.out.lt
      simp only [List.getElem?_toArray, List.getElem?_cons_zero, List.getElem?_cons_succ] at rr0 rr1 rr2 rr3 rr4 rr5 rr6
      have hz60 : (60 : Int) < ((gather pp pth).length : Int) := by omega
      go_wp2_with fail
      refine bodyPost_ret (book_ret rfl (set7 hRR.out) rfl rfl rfl rfl rfl rfl rfl) rfl ?_
      exact ⟨rfl, below7 hBR.out⟩
    · have hk' : k < pth.length := by omega
      have hpk := (World.grownBy.cell_far hGr ⟨gp, k, none⟩ hgp (by simp; omega)).trans (Own.cell hOP.out (intL_at pth k hk'))
      have hxk : pth[k]? = some (pth.getD k 0) := by simp [hk']
      have htk : pth.take (k + 1) = pth.take k ++ [pth.getD k 0] := by rw [List.take_add_one, hxk]; rfl
      have htl : (pth.take k).length ≤ 41 := by rw [List.length_take]; omega
      have hgl := HGL.out.2 (pth.take k)
      have hsm := HGL.out.1 (pth.getD k 0)
      have HT := Lib.hid htk
      have HK := Lib.hid hkl
      clear hKr hOr hGr hkl hxk htk
      generalize pth.getD k 0 = x at hpk HT hsm
      by_cases hx : x < pp.length
      · have hx' : (x : Int) < (pp.length : Int) := by omega
        obtain ⟨ab, rfl, hab, A, ac, hcell, hprow⟩ := HS.out.2.2.1.row x hx
        have hBr : ∀ i, i < w.heap.size → wr.heap[i]? = w.heap[i]? := fun i hi => (hGR.out.block i (by omega) (by simp; omega)).trans (hB6.out.block i hi)
        have hca := (World.cell?_of_block (a := ab.add x) (hBr _ (by rw [addr_block]; exact hab))).trans hcell
        have habw : ab.block < wr.heap.size := by omega
        have hpr : PRow wr A (pp.getD x []) := ⟨fun i hi => by
          obtain ⟨b, hb, hlt, hxx⟩ := hprow.row i hi
          have hc' : ∀ q, wr.cell? (b.add q) = w.cell? (b.add q) := fun q => World.cell?_of_block (hBr _ (by rw [addr_block]; exact hlt))
          exact ⟨b, hb, by omega, fun p hp => by rw [hc', hc', hc', hc']; exact hxx p hp⟩⟩
        have hPR := Lib.hid hpr
        have HX := Lib.hid (And.intro hprow hBr)
        clear hcell hprow hBr hpr
        generalize hpx : pp.getD x [] = px at hca hPR hsm
        have HPX := Lib.hid hpx
        clear hpx
        go_wp2_with fail
        go_region_law ((refine step_append_pays (by rfl) (.tmp 62) (.tmp 66) (by rfl) w6.heap.size (.slice vx (gather pp (pth.take k)).length vc) (gather pp (pth.take k)).length (payCells (gather pp (pth.take k))) (by rfl) hOR.out A ac px (by rfl) ⟨hPR.out.row⟩ (by omega) (show w6.heap.size ≤ wr.heap.size from hsr) ?_
                        intro y c2 w7 hown7 hgrow7
                        have hg7 : wr.grownBy w7 _ := ⟨hgrow7.os, hgrow7.tape, hgrow7.output, hgrow7.size, hgrow7.block⟩
                        have hK7 : Blk w7 _ _ _ := hKR.out.grown hg7 (row_ne hOR.out hKR.out (by decide))
                        have k47 := hK7.cell 4
                        have kf47 := hK7.frozen 4
                        have kl47 := hK7.lt
                        simp only [List.getElem?_toArray, List.getElem?_cons_zero, List.getElem?_cons_succ] at k47
                        have HK7 := Lib.hid hK7
                        have HO7 := Lib.hid hown7
                        have HG7 := Lib.hid (gath_grown hGR.out hg7 hOR.out (by omega))
                        clear hK7 hown7 hgrow7 hg7))
        all_goals go_wp2_with fail
        all_goals exact ⟨⟨k + 1, .slice y ((gather pp (pth.take k)).length + px.length) c2, by simp, by omega, HK7.out.set_ 4 _, by rw [HT.out, gather_snoc, HPX.out, List.length_append, payCells_append]; exact row_turned HO7.out (fun g cs hg => Below.heap_setCell _ _ _ g (fun e => Blk.ne_ hg HK7.out (by decide) e)), HG7.out _⟩, by simp [intOf]; omega⟩
      · have hx' : (pp.length : Int) ≤ (x : Int) := by omega
        go_wp2_with fail
        go_roundw
        case measure => simp [intOf]; omega
        have he : pp.getD x [] = [] := by simp [Nat.not_lt.1 hx]
        exact ⟨k + 1, _, by simp, by omega, hKR.out, by rw [HT.out, gather_snoc, he]; simpa using hOR.out, hGR.out⟩

set_option maxHeartbeats 4000000 in
theorem book_pos_led (n f : Int) (liars cap mcap pcap : Nat) (a ma pa : Option Addr) (l : List Say) (m : List Int) (pp : List (List Lg.Pay)) (c : Cfg) (s : St) (hs0 : (run c (Mo.start c) l).1 = s)
    (hp : ∀ w : World, SRow w a l → Calls Tryd.prog 9 #[.int .i64 n, .int .i64 f, .int .u32 liars, .slice a l.length cap] w (Met w c l)) (hs : SRow w a l) (hm : MRow w ma m) (hpp : PPRow w pa pp) (hg : Laid w)
    (code : Int) (hcode : code ≠ 0) (hled : ∀ (W : World) (x : Option Addr) (k : Nat), MRow W ma m → Calls Tryd.prog 14 #[.slice ma m.length mcap, .slice x (gather pp (path s.blocks (lastTo c s s.blocks.length))).length k] W fun e w' => e = .returned (.tuple #[.slice none 0 0, .slice none 0 0, .int .i64 code]) ∧ W = w') (h60 : (gather pp (path s.blocks (lastTo c s s.blocks.length))).length ≤ 60) (hpos : 0 ≤ lastTo c s s.blocks.length) :
    Calls Tryd.prog 6 #[.int .i64 n, .int .i64 f, .int .u32 liars, .slice a l.length cap, .slice ma m.length mcap, .slice pa pp.length pcap] w (fun e w' => e = .returned (.tuple #[zeroBooked, .int .i64 code]) ∧ Below w.heap.size w w') := by
  have HLE := Lib.hid hled
  clear hled
  have hP := Lib.hid hp
  have HS := Lib.hid (And.intro hs (And.intro hm (And.intro hpp (And.intro hg hs0))))
  clear hp hs hm hpp hg hs0
  have hk0 := Lib.hid (Blk.new w 34 noBook)
  have hb0 := Lib.hid ((Below.refl w.heap.size w).alloc (Nat.le_refl _) (.cells noBook 34))
  unfold noBook at hk0 hb0
  have hsz0 : (w.alloc (.cells #[.slice none 0 0, .slice none 0 0, .slice none 0 0, .slice none 0 0, .slice none 0 0, .slice none 0 0, .slice none 0 0] 34)).heap.size = w.heap.size + 1 := by simp
  have HSZ := Lib.hid hsz0
  clear hsz0
  go_enter Tryd.func6, Tryd.ntmps6
  go_wp2_with fail
  refine (hP.out _ (HS.out.1.later hb0.out)).mono ?_
  intro e w1 hmet
  obtain ⟨s2, cx, cc0, gb, cb, gc, cc, gd, hst, hw, rfl, hM, hcod, hb1, gb1, gc1, gd1⟩ := hmet.parts
  obtain rfl : s = s2 := HS.out.2.2.2.2.symm.trans hst
  rw [HSZ.out] at gb1 gc1 gd1 hcod hb1
  have hs1 : w.heap.size + 1 ≤ w1.heap.size := by have := hb1.size; rw [HSZ.out] at this; exact this
  have hb4 : Below w1.heap.size w1 (((w1.alloc (.cells #[.slice cx l.length cc0, .slice (some ⟨gb, 0, none⟩) s.blocks.length cb, .slice (some ⟨gc, 0, none⟩) s.blocks.length cc, .slice (some ⟨gd, 0, none⟩) s.blocks.length s.blocks.length] 30)).alloc (.cells #[.slice cx l.length cc0, .slice (some ⟨gb, 0, none⟩) s.blocks.length cb, .slice (some ⟨gc, 0, none⟩) s.blocks.length cc, .slice (some ⟨gd, 0, none⟩) s.blocks.length s.blocks.length] 55)).alloc (.cells #[.slice cx l.length cc0, .slice (some ⟨gb, 0, none⟩) s.blocks.length cb, .slice (some ⟨gc, 0, none⟩) s.blocks.length cc, .slice (some ⟨gd, 0, none⟩) s.blocks.length s.blocks.length, .slice none 0 0, .slice none 0 0, .slice none 0 0] 34)) := (((Below.refl _ w1).alloc (Nat.le_refl _) _).alloc (by simp) _).alloc (by simp; omega) _
  have hk4 := Blk.new ((w1.alloc (.cells #[.slice cx l.length cc0, .slice (some ⟨gb, 0, none⟩) s.blocks.length cb, .slice (some ⟨gc, 0, none⟩) s.blocks.length cc, .slice (some ⟨gd, 0, none⟩) s.blocks.length s.blocks.length] 30)).alloc (.cells #[.slice cx l.length cc0, .slice (some ⟨gb, 0, none⟩) s.blocks.length cb, .slice (some ⟨gc, 0, none⟩) s.blocks.length cc, .slice (some ⟨gd, 0, none⟩) s.blocks.length s.blocks.length] 55)) 34 #[.slice cx l.length cc0, .slice (some ⟨gb, 0, none⟩) s.blocks.length cb, .slice (some ⟨gc, 0, none⟩) s.blocks.length cc, .slice (some ⟨gd, 0, none⟩) s.blocks.length s.blocks.length, .slice none 0 0, .slice none 0 0, .slice none 0 0]
  rw [World.size_alloc, World.size_alloc] at hk4
  have hsz4 : (((w1.alloc (.cells #[.slice cx l.length cc0, .slice (some ⟨gb, 0, none⟩) s.blocks.length cb, .slice (some ⟨gc, 0, none⟩) s.blocks.length cc, .slice (some ⟨gd, 0, none⟩) s.blocks.length s.blocks.length] 30)).alloc (.cells #[.slice cx l.length cc0, .slice (some ⟨gb, 0, none⟩) s.blocks.length cb, .slice (some ⟨gc, 0, none⟩) s.blocks.length cc, .slice (some ⟨gd, 0, none⟩) s.blocks.length s.blocks.length] 55)).alloc (.cells #[.slice cx l.length cc0, .slice (some ⟨gb, 0, none⟩) s.blocks.length cb, .slice (some ⟨gc, 0, none⟩) s.blocks.length cc, .slice (some ⟨gd, 0, none⟩) s.blocks.length s.blocks.length, .slice none 0 0, .slice none 0 0, .slice none 0 0] 34)).heap.size = w1.heap.size + 3 := by simp
  have hM4 := Lib.hid (hM.later hb4)
  have hC4 := Lib.hid (row_turned hcod (w' := ((w1.alloc (.cells #[.slice cx l.length cc0, .slice (some ⟨gb, 0, none⟩) s.blocks.length cb, .slice (some ⟨gc, 0, none⟩) s.blocks.length cc, .slice (some ⟨gd, 0, none⟩) s.blocks.length s.blocks.length] 30)).alloc (.cells #[.slice cx l.length cc0, .slice (some ⟨gb, 0, none⟩) s.blocks.length cb, .slice (some ⟨gc, 0, none⟩) s.blocks.length cc, .slice (some ⟨gd, 0, none⟩) s.blocks.length s.blocks.length] 55)).alloc (.cells #[.slice cx l.length cc0, .slice (some ⟨gb, 0, none⟩) s.blocks.length cb, .slice (some ⟨gc, 0, none⟩) s.blocks.length cc, .slice (some ⟨gd, 0, none⟩) s.blocks.length s.blocks.length, .slice none 0 0, .slice none 0 0, .slice none 0 0] 34)) (fun g cs hg => hb4.block g hg.lt))
  have hR4 := Lib.hid ((hk0.out.below hb1 (by omega)).below hb4 (by omega))
  have hB4 := Lib.hid ((hb0.out.trans (hb1.mono (by omega))).trans (hb4.mono (by omega)))
  have HW := Lib.hid hw
  have HST := Lib.hid hst
  have hK4 := Lib.hid hk4
  have hmE := Blk.new (w1.alloc (.cells #[.slice cx l.length cc0, .slice (some ⟨gb, 0, none⟩) s.blocks.length cb, .slice (some ⟨gc, 0, none⟩) s.blocks.length cc, .slice (some ⟨gd, 0, none⟩) s.blocks.length s.blocks.length] 30)) 55 #[.slice cx l.length cc0, .slice (some ⟨gb, 0, none⟩) s.blocks.length cb, .slice (some ⟨gc, 0, none⟩) s.blocks.length cc, .slice (some ⟨gd, 0, none⟩) s.blocks.length s.blocks.length]
  rw [World.size_alloc] at hmE
  have hmE4 := Lib.hid (hmE.alloc (.cells #[.slice cx l.length cc0, .slice (some ⟨gb, 0, none⟩) s.blocks.length cb, .slice (some ⟨gc, 0, none⟩) s.blocks.length cc, .slice (some ⟨gd, 0, none⟩) s.blocks.length s.blocks.length, .slice none 0 0, .slice none 0 0, .slice none 0 0] 34))
  have lgb := hM.blocks.gb
  have lgc := hM.gc
  have lgd := hM.gd
  have HM4 := hM4
  clear hmet hM hcod hb1 hb4 hk4 hw hst hmE
  go_wp2_with fail
  generalize ((w1.alloc (.cells #[.slice cx l.length cc0, .slice (some ⟨gb, 0, none⟩) s.blocks.length cb, .slice (some ⟨gc, 0, none⟩) s.blocks.length cc, .slice (some ⟨gd, 0, none⟩) s.blocks.length s.blocks.length] 30)).alloc (.cells #[.slice cx l.length cc0, .slice (some ⟨gb, 0, none⟩) s.blocks.length cb, .slice (some ⟨gc, 0, none⟩) s.blocks.length cc, .slice (some ⟨gd, 0, none⟩) s.blocks.length s.blocks.length] 55)).alloc (.cells #[.slice cx l.length cc0, .slice (some ⟨gb, 0, none⟩) s.blocks.length cb, .slice (some ⟨gc, 0, none⟩) s.blocks.length cc, .slice (some ⟨gd, 0, none⟩) s.blocks.length s.blocks.length, .slice none 0 0, .slice none 0 0, .slice none 0 0] 34) = W4 at hM4 hC4 hR4 hB4 hK4 hmE4 hsz4 HM4 ⊢
  refine (last_calls W4 c s HW.out (.slice cx l.length cc0) gb cb gc cc gd rfl hM4.out).mono ?_
  rintro e w5 ⟨rfl, hb5⟩
  have hM5 := Lib.hid (hM4.out.later hb5)
  have hC5 := Lib.hid (row_turned hC4.out (w' := w5) (fun g cs hg => hb5.block g hg.lt))
  have hR5 := Lib.hid (hR4.out.below hb5 (by omega))
  have hB5 := Lib.hid (hB4.out.trans (hb5.mono hB4.out.size))
  have hK5 := Lib.hid (hK4.out.below hb5 (by omega))
  have hmE5 := Lib.hid (hmE4.out.below hb5 (by omega))
  have hs5 := hb5.size
  clear hb5 hM4 hC4 hR4 hB4 hK4 hmE4 HM4
  have hlv := lastTo_lt c s s.blocks.length
  obtain ⟨j, hj⟩ := Int.eq_ofNat_of_zero_le hpos
  rw [hj] at hlv
  have hjl : j < s.blocks.length := by omega
  have hb41 := hmE5.out.cell 1
  simp only [List.getElem?_toArray, List.getElem?_cons_zero, List.getElem?_cons_succ] at hb41
  have hlm := hmE5.out.lt
  have HJ := Lib.hid hj
  rw [hj]
  clear hj
  go_wp2_with fail
  refine (chainPath_calls w5 gb cb s.blocks (WF.chn HW.out) hM5.out.blocks j hjl).mono ?_
  rintro e w6 ⟨gp, cp, rfl, hOp, hb6⟩
  have hM6 := Lib.hid (hM5.out.later hb6)
  have hC6 := Lib.hid (row_turned hC5.out (w' := w6) (fun g cs hg => hb6.block g hg.lt))
  have hR6 := Lib.hid (hR5.out.below hb6 (by omega))
  have hB6 := Lib.hid (hB5.out.trans (hb6.mono hB5.out.size))
  have hK6 := Lib.hid (hK5.out.below hb6 (by omega))
  have hs6 := hb6.size
  have hOP := Lib.hid hOp
  have hgp := hOp.lt
  have hge6 := hOp.ge
  have hpl : (path s.blocks j).length ≤ 41 := by
    unfold path
    rw [List.length_reverse]
    exact Nat.le_trans (ups_len _ _) (by have := HW.out.len40; omega)
  have hsml := HS.out.2.2.1.sml
  have hgl := gather_le pp hsml
  have HGL := Lib.hid (And.intro hsml hgl)
  clear hOp hb6 hM5 hC5 hR5 hB5 hK5 hmE5 hb41 hsml hgl hlm
  generalize hpth : path s.blocks j = pth at hOP hpl ⊢
  have HPTH := Lib.hid hpth
  clear hpth
  go_wp2_with fail
  go_loopw [53] (fun i wr => ∃ (k : Nat) (v : Value), i = .int .i64 k ∧ k ≤ pth.length ∧ Blk wr (w1.heap.size + 1 + 1) 34 #[.slice cx l.length cc0, .slice (some ⟨gb, 0, none⟩) s.blocks.length cb, .slice (some ⟨gc, 0, none⟩) s.blocks.length cc, .slice (some ⟨gd, 0, none⟩) s.blocks.length s.blocks.length, v, .slice none 0 0, .slice none 0 0] ∧ wr.ownsRow w6.heap.size 41 4 v (gather pp (pth.take k)).length (payCells (gather pp (pth.take k))) ∧ w6.grownBy wr (some (w1.heap.size + 1 + 1))) (fun i _ => pth.length - (intOf i).toNat)
  case atStart => exact ⟨0, _, rfl, by omega, hK6.out, World.ownsRow_nil _ _ _ _, World.grownBy.refl _ _⟩
  case round =>
    obtain ⟨k, v, rfl, hk, hKr, hOr, hGr⟩ := hrel
    obtain ⟨vx, vc, hv⟩ := row_len hOr
    subst hv
    have hKR := Lib.hid hKr
    have hOR := Lib.hid hOr
    have hGR := Lib.hid hGr
    have k4 := hKr.cell 4
    have kf4 := hKr.frozen 4
    have kl4 := hKr.lt
    simp only [List.getElem?_toArray, List.getElem?_cons_zero, List.getElem?_cons_succ] at k4
    have hsr := hGr.size
    by_cases hkl : pth.length = k
    · subst hkl
      clear hKr hOr hGr
      rw [List.take_length] at hKR hOR k4
      have hBR := Lib.hid (show Below w.heap.size w wr from ⟨hGR.out.os.trans hB6.out.os, hGR.out.tape.trans hB6.out.tape, hGR.out.output.trans hB6.out.output, Nat.le_trans hB6.out.size hsr, fun i hi => (hGR.out.block i (by omega) (by simp; omega)).trans (hB6.out.block i hi)⟩)
      have hRR := Lib.hid (hR6.out.grown hGR.out (by simp; omega))
      have hMR := Lib.hid (hM6.out.keep (hGR.out.block gb (by omega) (by simp; omega)) (hGR.out.block gc (by omega) (by simp; omega)) (hGR.out.block gd (by omega) (by simp; omega)) hsr)
      have hCR := Lib.hid (row_turned hC6.out (w' := wr) (fun g cs hg => hGR.out.block g hg.lt (fun e => by cases e; exact Blk.ne_ hg hK6.out (by decide) rfl)))
      have h60' : (gather pp pth).length ≤ 60 := by rw [← HPTH.out]; rw [HJ.out] at h60; exact h60
      clear h60
      have hled' : ∀ (W : World) (x : Option Addr) (k : Nat), MRow W ma m → Calls Tryd.prog 14 #[.slice ma m.length mcap, .slice x (gather pp pth).length k] W fun e w' => e = .returned (.tuple #[.slice none 0 0, .slice none 0 0, .int .i64 code]) ∧ W = w' := by
        have := HLE.out
        rw [HJ.out, HPTH.out] at this
        exact this
      have HL2 := Lib.hid hled'
      clear hled'
      go_wp2_with fail
      refine (HL2.out wr _ _ (HS.out.2.1.later hBR.out)).mono ?_
      rintro e w10 ⟨rfl, rfl⟩
      have kf5 := hKR.out.frozen 5
      have kf6 := hKR.out.frozen 6
      have kk5 := hKR.out.cell 5
      have kk6 := hKR.out.cell 6
      have kl := hKR.out.lt
      simp only [List.getElem?_toArray, List.getElem?_cons_zero, List.getElem?_cons_succ] at kk5 kk6
      have hne : w1.heap.size + 1 + 1 ≠ w.heap.size := by omega
      have rr0 := hRR.out.cell 0
      have rr1 := hRR.out.cell 1
      have rr2 := hRR.out.cell 2
      have rr3 := hRR.out.cell 3
      have rr4 := hRR.out.cell 4
      have rr5 := hRR.out.cell 5
      have rr6 := hRR.out.cell 6
      have rf0 := hRR.out.frozen 0
      have rf1 := hRR.out.frozen 1
      have rf2 := hRR.out.frozen 2
      have rf3 := hRR.out.frozen 3
      have rf4 := hRR.out.frozen 4
      have rf5 := hRR.out.frozen 5
      have rf6 := hRR.out.frozen 6
      have rl := hRR.out.lt
      simp only [List.getElem?_toArray, List.getElem?_cons_zero, List.getElem?_cons_succ] at rr0 rr1 rr2 rr3 rr4 rr5 rr6
      have hc1 : (code != 0) = true := by simpa using hcode
      go_wp2_with fail
      have hfin : Blk ((wr.setCell ⟨w1.heap.size + 1 + 1, 6, none⟩ (.slice none 0 0)).setCell ⟨w1.heap.size + 1 + 1, 5, none⟩ (.slice none 0 0)) w.heap.size _ _ := (hRR.out.far (p := ⟨w1.heap.size + 1 + 1, 6, none⟩) (Ne.symm hne) _).far (p := ⟨w1.heap.size + 1 + 1, 5, none⟩) (Ne.symm hne) _
      refine bodyPost_ret (book_ret rfl (set7 hfin) rfl rfl rfl rfl rfl rfl rfl) rfl ?_
      exact ⟨rfl, below7 ((hBR.out.setCell (p := ⟨w1.heap.size + 1 + 1, 6, none⟩) (by simp; omega) _).setCell (p := ⟨w1.heap.size + 1 + 1, 5, none⟩) (by simp; omega) _)⟩
    · have hk' : k < pth.length := by omega
      have hpk := (World.grownBy.cell_far hGr ⟨gp, k, none⟩ hgp (by simp; omega)).trans (Own.cell hOP.out (intL_at pth k hk'))
      have hxk : pth[k]? = some (pth.getD k 0) := by simp [hk']
      have htk : pth.take (k + 1) = pth.take k ++ [pth.getD k 0] := by rw [List.take_add_one, hxk]; rfl
      have htl : (pth.take k).length ≤ 41 := by rw [List.length_take]; omega
      have hgl := HGL.out.2 (pth.take k)
      have hsm := HGL.out.1 (pth.getD k 0)
      have HT := Lib.hid htk
      have HK := Lib.hid hkl
      clear hKr hOr hGr hkl hxk htk
      generalize pth.getD k 0 = x at hpk HT hsm
      by_cases hx : x < pp.length
      · have hx' : (x : Int) < (pp.length : Int) := by omega
        obtain ⟨ab, rfl, hab, A, ac, hcell, hprow⟩ := HS.out.2.2.1.row x hx
        have hBr : ∀ i, i < w.heap.size → wr.heap[i]? = w.heap[i]? := fun i hi => (hGR.out.block i (by omega) (by simp; omega)).trans (hB6.out.block i hi)
        have hca := (World.cell?_of_block (a := ab.add x) (hBr _ (by rw [addr_block]; exact hab))).trans hcell
        have habw : ab.block < wr.heap.size := by omega
        have hpr : PRow wr A (pp.getD x []) := ⟨fun i hi => by
          obtain ⟨b, hb, hlt, hxx⟩ := hprow.row i hi
          have hc' : ∀ q, wr.cell? (b.add q) = w.cell? (b.add q) := fun q => World.cell?_of_block (hBr _ (by rw [addr_block]; exact hlt))
          exact ⟨b, hb, by omega, fun p hp => by rw [hc', hc', hc', hc']; exact hxx p hp⟩⟩
        have hPR := Lib.hid hpr
        have HX := Lib.hid (And.intro hprow hBr)
        clear hcell hprow hBr hpr
        generalize hpx : pp.getD x [] = px at hca hPR hsm
        have HPX := Lib.hid hpx
        clear hpx
        go_wp2_with fail
        go_region_law ((refine step_append_pays (by rfl) (.tmp 62) (.tmp 66) (by rfl) w6.heap.size (.slice vx (gather pp (pth.take k)).length vc) (gather pp (pth.take k)).length (payCells (gather pp (pth.take k))) (by rfl) hOR.out A ac px (by rfl) ⟨hPR.out.row⟩ (by omega) (show w6.heap.size ≤ wr.heap.size from hsr) ?_
                        intro y c2 w7 hown7 hgrow7
                        have hg7 : wr.grownBy w7 _ := ⟨hgrow7.os, hgrow7.tape, hgrow7.output, hgrow7.size, hgrow7.block⟩
                        have hK7 : Blk w7 _ _ _ := hKR.out.grown hg7 (row_ne hOR.out hKR.out (by decide))
                        have k47 := hK7.cell 4
                        have kf47 := hK7.frozen 4
                        have kl47 := hK7.lt
                        simp only [List.getElem?_toArray, List.getElem?_cons_zero, List.getElem?_cons_succ] at k47
                        have HK7 := Lib.hid hK7
                        have HO7 := Lib.hid hown7
                        have HG7 := Lib.hid (gath_grown hGR.out hg7 hOR.out (by omega))
                        clear hK7 hown7 hgrow7 hg7))
        all_goals go_wp2_with fail
        all_goals exact ⟨⟨k + 1, .slice y ((gather pp (pth.take k)).length + px.length) c2, by simp, by omega, HK7.out.set_ 4 _, by rw [HT.out, gather_snoc, HPX.out, List.length_append, payCells_append]; exact row_turned HO7.out (fun g cs hg => Below.heap_setCell _ _ _ g (fun e => Blk.ne_ hg HK7.out (by decide) e)), HG7.out _⟩, by simp [intOf]; omega⟩
      · have hx' : (pp.length : Int) ≤ (x : Int) := by omega
        go_wp2_with fail
        go_roundw
        case measure => simp [intOf]; omega
        have he : pp.getD x [] = [] := by simp [Nat.not_lt.1 hx]
        exact ⟨k + 1, _, by simp, by omega, hKR.out, by rw [HT.out, gather_snoc, he]; simpa using hOR.out, hGR.out⟩

end
end Go.Proofs.YtkcekjpohpenkaaDoor
