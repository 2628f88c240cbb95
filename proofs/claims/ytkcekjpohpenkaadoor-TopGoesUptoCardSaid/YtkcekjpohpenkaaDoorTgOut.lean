import Derived.Test.YtkcekjpohpenkaaDoorGq
import Derived.Test.YtkcekjpohpenkaaDoorMx
import Derived.Deep.OwnRows
import Derived.Sort.QuietIn
/- TopGoes' walk. -/
set_option linter.unusedVariables false
set_option linter.unusedSimpArgs false
set_option maxRecDepth 100000
namespace Go.Proofs.YtkcekjpohpenkaaDoor
open Go.RowKit Mo
section
variable {w : World}
set_option maxHeartbeats 1000000 in
theorem tg_err (n f : Int) (liars : Nat) (sv mv pv qv : Value) (code : Int) (hcode : code ≠ 0)
    (hp : Calls Tryd.prog 6 #[.int .i64 n, .int .i64 f, .int .u32 liars, sv, mv, pv] w fun e w' => e = .returned (.tuple #[zeroBooked, .int .i64 code]) ∧ Below w.heap.size w w') :
    Calls Tryd.prog 4 #[.int .i64 n, .int .i64 f, .int .u32 liars, sv, mv, pv, qv] w (Yes w) := by
  have hP := Lib.hid hp
  clear hp
  have hc1 : (code != 0) = true := by simpa using hcode
  unfold zeroBooked at hP
  go_enter Tryd.func4, Tryd.ntmps4
  go_wp2_with fail
  refine (hP.out).mono ?_
  rintro e w1 ⟨rfl, hb1⟩
  have HB := Lib.hid hb1
  clear hb1
  go_wp2_with fail
  go_ret
  exact ⟨rfl, HB.out.alloc HB.out.size _⟩

set_option maxHeartbeats 2000000 in
theorem tg_out1 (N F liars cap mcap pcap qcap : Nat) (a ma pa qa : Option Addr) (l : List Say) (m : List Int) (pp : List (List Lg.Pay)) (mr : List Lg.Pay) (c : Cfg) (s : St) (hcn : c.n = N) (hcl : c.liars = liars) (hI : Inv c s) (h1 : 1 ≤ N) (h7 : N ≤ 7) (hlr : liars < 2 ^ N) (h120 : l.length ≤ 120) (h12 : m.length ≤ 12)
    (hp : Calls Tryd.prog 6 #[.int .i64 N, .int .i64 F, .int .u32 liars, .slice a l.length cap, .slice ma m.length mcap, .slice pa pp.length pcap] w (BookAt w c s l m (paid c s pp)))
    (hfew : ¬ (pop liars : Int) ≤ F) :
    Calls Tryd.prog 4 #[.int .i64 N, .int .i64 F, .int .u32 liars, .slice a l.length cap, .slice ma m.length mcap, .slice pa pp.length pcap, .slice qa mr.length qcap] w (Yes w) := by
  have hfew' : decide ((pop liars : Int) ≤ F) = false := by simpa using hfew
  clear hfew
  have hP := Lib.hid hp
  have HI := Lib.hid hI
  have hl1 := hI.wf.len1
  have hl40 := hI.wf.len40
  clear hp hI
  go_enter Tryd.func4, Tryd.ntmps4
  go_wp2_with fail
  refine (hP.out).mono ?_
  intro e w1 hbk
  obtain ⟨cx, cc0, gb, cb, gc, cc, gd, vx, vc, ga, ca, cod, rfl, hM, hCx, hV, hCo, hA, hB⟩ := hbk
  obtain ⟨ck, cn2, rfl⟩ := row_len hCo
  have hb2 : Below w1.heap.size w1 (w1.alloc (.cells #[.slice cx l.length cc0, .slice (some ⟨gb, 0, none⟩) s.blocks.length cb, .slice (some ⟨gc, 0, none⟩) s.blocks.length cc, .slice (some ⟨gd, 0, none⟩) s.blocks.length s.blocks.length, .slice vx (paid c s pp).length vc, .slice ck (paid c s pp).length cn2, .slice (some ⟨ga, 0, none⟩) m.length ca] 34)) := (Below.refl _ w1).alloc (Nat.le_refl _) _
  have hK2 := Lib.hid (Blk.new w1 34 #[.slice cx l.length cc0, .slice (some ⟨gb, 0, none⟩) s.blocks.length cb, .slice (some ⟨gc, 0, none⟩) s.blocks.length cc, .slice (some ⟨gd, 0, none⟩) s.blocks.length s.blocks.length, .slice vx (paid c s pp).length vc, .slice ck (paid c s pp).length cn2, .slice (some ⟨ga, 0, none⟩) m.length ca])
  have hM2 := Lib.hid (hM.later hb2)
  have hV2 := Lib.hid (row_turned hV (w' := w1.alloc (.cells #[.slice cx l.length cc0, .slice (some ⟨gb, 0, none⟩) s.blocks.length cb, .slice (some ⟨gc, 0, none⟩) s.blocks.length cc, .slice (some ⟨gd, 0, none⟩) s.blocks.length s.blocks.length, .slice vx (paid c s pp).length vc, .slice ck (paid c s pp).length cn2, .slice (some ⟨ga, 0, none⟩) m.length ca] 34)) (fun g cs hg => hb2.block g hg.lt))
  have hB2 := Lib.hid (hB.trans (hb2.mono hB.size))
  clear hM hb2 hCx hV hCo hA hB
  generalize hW2 : w1.alloc (.cells #[.slice cx l.length cc0, .slice (some ⟨gb, 0, none⟩) s.blocks.length cb, .slice (some ⟨gc, 0, none⟩) s.blocks.length cc, .slice (some ⟨gd, 0, none⟩) s.blocks.length s.blocks.length, .slice vx (paid c s pp).length vc, .slice ck (paid c s pp).length cn2, .slice (some ⟨ga, 0, none⟩) m.length ca] 34) = W2 at hK2 hM2 hV2 hB2
  have HW2 := Lib.hid hW2
  have k1 := hK2.out.cell 1
  have k2 := hK2.out.cell 2
  have k6 := hK2.out.cell 6
  have kl := hK2.out.lt
  simp only [List.getElem?_toArray, List.getElem?_cons_zero, List.getElem?_cons_succ] at k1 k2 k6
  have zm : ((m.length : Int) != (m.length : Int)) = false := by simp
  have zs : ((s.blocks.length : Int) != (s.blocks.length : Int)) = false := by simp
  have z0 : ((s.blocks.length : Int) == 0) = false := by have : (s.blocks.length : Int) ≠ 0 := by omega
                                                         simpa using this
  go_wp2_with fail
  clear hW2
  refine (few_calls _ liars N F (by omega) hlr).mono ?_
  rw [hfew']
  rintro e w4 ⟨rfl, hw4⟩
  subst hw4
  go_wp2_with fail
  go_ret
  exact ⟨rfl, hB2.out⟩

set_option maxHeartbeats 2000000 in
theorem tg_out2 (N F liars cap mcap pcap qcap : Nat) (a ma pa qa : Option Addr) (l : List Say) (m : List Int) (pp : List (List Lg.Pay)) (mr : List Lg.Pay) (c : Cfg) (s : St) (hcn : c.n = N) (hcl : c.liars = liars) (hI : Inv c s) (h1 : 1 ≤ N) (h7 : N ≤ 7) (hlr : liars < 2 ^ N) (h120 : l.length ≤ 120) (h12 : m.length ≤ 12)
    (hp : Calls Tryd.prog 6 #[.int .i64 N, .int .i64 F, .int .u32 liars, .slice a l.length cap, .slice ma m.length mcap, .slice pa pp.length pcap] w (BookAt w c s l m (paid c s pp)))
    (hfew : (pop liars : Int) ≤ F) (hq : 40 < s.blocks.length + 2) :
    Calls Tryd.prog 4 #[.int .i64 N, .int .i64 F, .int .u32 liars, .slice a l.length cap, .slice ma m.length mcap, .slice pa pp.length pcap, .slice qa mr.length qcap] w (Yes w) := by
  have hfew' : decide ((pop liars : Int) ≤ F) = true := by simpa using hfew
  have hq' : (40 : Int) < (s.blocks.length : Int) + 2 := by omega
  clear hfew
  have hP := Lib.hid hp
  have HI := Lib.hid hI
  have hl1 := hI.wf.len1
  have hl40 := hI.wf.len40
  clear hp hI
  go_enter Tryd.func4, Tryd.ntmps4
  go_wp2_with fail
  refine (hP.out).mono ?_
  intro e w1 hbk
  obtain ⟨cx, cc0, gb, cb, gc, cc, gd, vx, vc, ga, ca, cod, rfl, hM, hCx, hV, hCo, hA, hB⟩ := hbk
  obtain ⟨ck, cn2, rfl⟩ := row_len hCo
  have hb2 : Below w1.heap.size w1 (w1.alloc (.cells #[.slice cx l.length cc0, .slice (some ⟨gb, 0, none⟩) s.blocks.length cb, .slice (some ⟨gc, 0, none⟩) s.blocks.length cc, .slice (some ⟨gd, 0, none⟩) s.blocks.length s.blocks.length, .slice vx (paid c s pp).length vc, .slice ck (paid c s pp).length cn2, .slice (some ⟨ga, 0, none⟩) m.length ca] 34)) := (Below.refl _ w1).alloc (Nat.le_refl _) _
  have hK2 := Lib.hid (Blk.new w1 34 #[.slice cx l.length cc0, .slice (some ⟨gb, 0, none⟩) s.blocks.length cb, .slice (some ⟨gc, 0, none⟩) s.blocks.length cc, .slice (some ⟨gd, 0, none⟩) s.blocks.length s.blocks.length, .slice vx (paid c s pp).length vc, .slice ck (paid c s pp).length cn2, .slice (some ⟨ga, 0, none⟩) m.length ca])
  have hM2 := Lib.hid (hM.later hb2)
  have hV2 := Lib.hid (row_turned hV (w' := w1.alloc (.cells #[.slice cx l.length cc0, .slice (some ⟨gb, 0, none⟩) s.blocks.length cb, .slice (some ⟨gc, 0, none⟩) s.blocks.length cc, .slice (some ⟨gd, 0, none⟩) s.blocks.length s.blocks.length, .slice vx (paid c s pp).length vc, .slice ck (paid c s pp).length cn2, .slice (some ⟨ga, 0, none⟩) m.length ca] 34)) (fun g cs hg => hb2.block g hg.lt))
  have hB2 := Lib.hid (hB.trans (hb2.mono hB.size))
  clear hM hb2 hCx hV hCo hA hB
  generalize hW2 : w1.alloc (.cells #[.slice cx l.length cc0, .slice (some ⟨gb, 0, none⟩) s.blocks.length cb, .slice (some ⟨gc, 0, none⟩) s.blocks.length cc, .slice (some ⟨gd, 0, none⟩) s.blocks.length s.blocks.length, .slice vx (paid c s pp).length vc, .slice ck (paid c s pp).length cn2, .slice (some ⟨ga, 0, none⟩) m.length ca] 34) = W2 at hK2 hM2 hV2 hB2
  have HW2 := Lib.hid hW2
  have k1 := hK2.out.cell 1
  have k2 := hK2.out.cell 2
  have k6 := hK2.out.cell 6
  have kl := hK2.out.lt
  simp only [List.getElem?_toArray, List.getElem?_cons_zero, List.getElem?_cons_succ] at k1 k2 k6
  have zm : ((m.length : Int) != (m.length : Int)) = false := by simp
  have zs : ((s.blocks.length : Int) != (s.blocks.length : Int)) = false := by simp
  have z0 : ((s.blocks.length : Int) == 0) = false := by have : (s.blocks.length : Int) ≠ 0 := by omega
                                                         simpa using this
  go_wp2_with fail
  clear hW2
  refine (few_calls _ liars N F (by omega) hlr).mono ?_
  rw [hfew']
  rintro e w4 ⟨rfl, hw4⟩
  subst hw4
  go_wp2_with fail
  go_ret
  exact ⟨rfl, hB2.out⟩

set_option maxHeartbeats 2000000 in
theorem tg_out3 (N F liars cap mcap pcap qcap : Nat) (a ma pa qa : Option Addr) (l : List Say) (m : List Int) (pp : List (List Lg.Pay)) (mr : List Lg.Pay) (c : Cfg) (s : St) (hcn : c.n = N) (hcl : c.liars = liars) (hI : Inv c s) (h1 : 1 ≤ N) (h7 : N ≤ 7) (hlr : liars < 2 ^ N) (h120 : l.length ≤ 120) (h12 : m.length ≤ 12)
    (hp : Calls Tryd.prog 6 #[.int .i64 N, .int .i64 F, .int .u32 liars, .slice a l.length cap, .slice ma m.length mcap, .slice pa pp.length pcap] w (BookAt w c s l m (paid c s pp)))
    (hfew : (pop liars : Int) ≤ F) (hq : s.blocks.length + 2 ≤ 40) (hr : 120 < l.length + 4 * N + 2) :
    Calls Tryd.prog 4 #[.int .i64 N, .int .i64 F, .int .u32 liars, .slice a l.length cap, .slice ma m.length mcap, .slice pa pp.length pcap, .slice qa mr.length qcap] w (Yes w) := by
  have hfew' : decide ((pop liars : Int) ≤ F) = true := by simpa using hfew
  have hq' : (s.blocks.length : Int) + 2 ≤ 40 := by omega
  have hr' : (120 : Int) < (l.length : Int) + 4 * (N : Int) + 2 := by omega
  clear hfew
  have hP := Lib.hid hp
  have HI := Lib.hid hI
  have hl1 := hI.wf.len1
  have hl40 := hI.wf.len40
  clear hp hI
  go_enter Tryd.func4, Tryd.ntmps4
  go_wp2_with fail
  refine (hP.out).mono ?_
  intro e w1 hbk
  obtain ⟨cx, cc0, gb, cb, gc, cc, gd, vx, vc, ga, ca, cod, rfl, hM, hCx, hV, hCo, hA, hB⟩ := hbk
  obtain ⟨ck, cn2, rfl⟩ := row_len hCo
  have hb2 : Below w1.heap.size w1 (w1.alloc (.cells #[.slice cx l.length cc0, .slice (some ⟨gb, 0, none⟩) s.blocks.length cb, .slice (some ⟨gc, 0, none⟩) s.blocks.length cc, .slice (some ⟨gd, 0, none⟩) s.blocks.length s.blocks.length, .slice vx (paid c s pp).length vc, .slice ck (paid c s pp).length cn2, .slice (some ⟨ga, 0, none⟩) m.length ca] 34)) := (Below.refl _ w1).alloc (Nat.le_refl _) _
  have hK2 := Lib.hid (Blk.new w1 34 #[.slice cx l.length cc0, .slice (some ⟨gb, 0, none⟩) s.blocks.length cb, .slice (some ⟨gc, 0, none⟩) s.blocks.length cc, .slice (some ⟨gd, 0, none⟩) s.blocks.length s.blocks.length, .slice vx (paid c s pp).length vc, .slice ck (paid c s pp).length cn2, .slice (some ⟨ga, 0, none⟩) m.length ca])
  have hM2 := Lib.hid (hM.later hb2)
  have hV2 := Lib.hid (row_turned hV (w' := w1.alloc (.cells #[.slice cx l.length cc0, .slice (some ⟨gb, 0, none⟩) s.blocks.length cb, .slice (some ⟨gc, 0, none⟩) s.blocks.length cc, .slice (some ⟨gd, 0, none⟩) s.blocks.length s.blocks.length, .slice vx (paid c s pp).length vc, .slice ck (paid c s pp).length cn2, .slice (some ⟨ga, 0, none⟩) m.length ca] 34)) (fun g cs hg => hb2.block g hg.lt))
  have hB2 := Lib.hid (hB.trans (hb2.mono hB.size))
  clear hM hb2 hCx hV hCo hA hB
  generalize hW2 : w1.alloc (.cells #[.slice cx l.length cc0, .slice (some ⟨gb, 0, none⟩) s.blocks.length cb, .slice (some ⟨gc, 0, none⟩) s.blocks.length cc, .slice (some ⟨gd, 0, none⟩) s.blocks.length s.blocks.length, .slice vx (paid c s pp).length vc, .slice ck (paid c s pp).length cn2, .slice (some ⟨ga, 0, none⟩) m.length ca] 34) = W2 at hK2 hM2 hV2 hB2
  have HW2 := Lib.hid hW2
  have k1 := hK2.out.cell 1
  have k2 := hK2.out.cell 2
  have k6 := hK2.out.cell 6
  have kl := hK2.out.lt
  simp only [List.getElem?_toArray, List.getElem?_cons_zero, List.getElem?_cons_succ] at k1 k2 k6
  have zm : ((m.length : Int) != (m.length : Int)) = false := by simp
  have zs : ((s.blocks.length : Int) != (s.blocks.length : Int)) = false := by simp
  have z0 : ((s.blocks.length : Int) == 0) = false := by have : (s.blocks.length : Int) ≠ 0 := by omega
                                                         simpa using this
  go_wp2_with fail
  clear hW2
  refine (few_calls _ liars N F (by omega) hlr).mono ?_
  rw [hfew']
  rintro e w4 ⟨rfl, hw4⟩
  subst hw4
  go_wp2_with fail
  go_ret
  exact ⟨rfl, hB2.out⟩
end
end Go.Proofs.YtkcekjpohpenkaaDoor
