import Derived.Test.YtkcekjpohpenkaaDoorRef
import Derived.Test.YtkcekjpohpenkaaDoorMoneyWalk
/- BookMeets' walk. -/
set_option linter.unusedVariables false
set_option linter.unusedSimpArgs false
set_option maxRecDepth 100000
namespace Go.Proofs.YtkcekjpohpenkaaDoor
open Go.RowKit Mo

theorem pp_nil (w : World) : PPRow w none [] := ⟨fun i hi => absurd hi (by simp), fun i => by simp⟩
theorem paid_nil (c : Cfg) (s : St) : paid c s [] = [] := by
  unfold paid
  split
  · rfl
  · generalize path s.blocks _ = l
    induction l with
    | nil => rfl
    | cons x r ih => simp [gather] at ih ⊢
theorem book_nil (c : Cfg) (s : St) (m : List Int) : bookCode c s m [] = ledCode m 0 := by unfold bookCode; rw [paid_nil]; simp
theorem led_more {m : List Int} {k : Nat} (h : ledCode m k = 0) : ledCode m 0 = 0 := by
  unfold ledCode at h ⊢
  split at h
  · omega
  · rename_i h1
    rw [if_neg (by omega)]
    exact h
theorem book_more {c : Cfg} {s : St} {m : List Int} {pp : List (List Lg.Pay)} (h : bookCode c s m pp = 0) : ledCode m 0 = 0 := by
  unfold bookCode at h
  split at h
  · omega
  · exact led_more h

theorem led_len {m : List Int} {k : Nat} (h : ledCode m k = 0) : m.length ≤ 12 := by
  unfold ledCode at h
  split at h
  · omega
  · omega
section
variable {w : World}
set_option maxHeartbeats 1000000 in
theorem meets_err (n f : Int) (liars : Nat) (sv mv pv : Value) (code : Int) (hcode : code ≠ 0)
    (hp : ∀ w : World, Calls Tryd.prog 9 #[.int .i64 n, .int .i64 f, .int .u32 liars, sv] w fun e w' => e = .returned (.tuple #[zeroMeeting, .int .i64 code]) ∧ Below w.heap.size w w')
    (hk : ∀ (w : World) (pv : Value), Calls Tryd.prog 6 #[.int .i64 n, .int .i64 f, .int .u32 liars, sv, mv, pv] w fun e w' => e = .returned (.tuple #[zeroBooked, .int .i64 code]) ∧ Below w.heap.size w w') :
    Calls Tryd.prog 5 #[.int .i64 n, .int .i64 f, .int .u32 liars, sv, mv, pv] w (Yes w) := by
  have hP := Lib.hid hp
  have hK := Lib.hid hk
  clear hp hk
  have hc1 : (code != 0) = true := by simpa using hcode
  have hc2 : (code == code) = true := by simp
  unfold zeroBooked at hK
  unfold zeroMeeting at hP
  go_enter Tryd.func5, Tryd.ntmps5
  go_wp2_with fail
  refine (hP.out _).mono ?_
  rintro e w1 ⟨rfl, hb1⟩
  have HB := Lib.hid hb1
  clear hb1
  go_wp2_with fail
  generalize hW2 : w1.alloc _ = W2
  have hB2 : Below w.heap.size w W2 := by rw [← hW2]; exact HB.out.alloc HB.out.size _
  have HB2 := Lib.hid hB2
  have HW2 := Lib.hid hW2
  clear hB2 hW2
  refine (hK.out _ _).mono ?_
  rintro e w3 ⟨rfl, hb3⟩
  have HB3 := Lib.hid (HB2.out.trans (hb3.mono HB2.out.size))
  clear hb3
  go_wp2_with fail
  generalize hW4 : w3.alloc _ = W4
  have hB4 : Below w.heap.size w W4 := by rw [← hW4]; exact HB3.out.alloc HB3.out.size _
  have HB4 := Lib.hid hB4
  have HW4 := Lib.hid hW4
  clear hB4 hW4
  refine (hK.out _ _).mono ?_
  rintro e w5 ⟨rfl, hb5⟩
  have HB5 := Lib.hid (HB4.out.trans (hb5.mono HB4.out.size))
  clear hb5
  go_wp2_with fail
  go_ret
  exact ⟨rfl, HB5.out.alloc HB5.out.size _⟩

theorem book_yes_nil (n f : Int) (liars cap mcap : Nat) (a ma : Option Addr) (l : List Say) (m : List Int) (c : Cfg) (s : St) (hs0 : (run c (Mo.start c) l).1 = s)
    (hp : ∀ w : World, SRow w a l → Calls Tryd.prog 9 #[.int .i64 n, .int .i64 f, .int .u32 liars, .slice a l.length cap] w (Met w c l)) (hs : SRow w a l) (hm : MRow w ma m) (hg : Laid w)
    (h : ledCode m 0 = 0) :
    Calls Tryd.prog 6 #[.int .i64 n, .int .i64 f, .int .u32 liars, .slice a l.length cap, .slice ma m.length mcap, .slice none 0 0] w (BookAt w c s l m []) := by
  have := book_yes n f liars cap mcap 0 a ma none l m [] c s hs0 hp hs hm (pp_nil w) hg (by rw [book_nil]; exact h)
  rw [paid_nil] at this
  exact this
theorem book_no_nil (n f : Int) (liars cap mcap : Nat) (a ma : Option Addr) (l : List Say) (m : List Int) (c : Cfg) (s : St) (hs0 : (run c (Mo.start c) l).1 = s)
    (hp : ∀ w : World, SRow w a l → Calls Tryd.prog 9 #[.int .i64 n, .int .i64 f, .int .u32 liars, .slice a l.length cap] w (Met w c l)) (hs : SRow w a l) (hm : MRow w ma m) (hg : Laid w)
    (h : ledCode m 0 ≠ 0) :
    Calls Tryd.prog 6 #[.int .i64 n, .int .i64 f, .int .u32 liars, .slice a l.length cap, .slice ma m.length mcap, .slice none 0 0] w fun e w' => e = .returned (.tuple #[zeroBooked, .int .i64 (ledCode m 0)]) ∧ Below w.heap.size w w' := by
  have := book_no n f liars cap mcap 0 a ma none l m [] c s hs0 hp hs hm (pp_nil w) hg (by rw [book_nil]; exact h)
  rw [book_nil] at this
  exact this

set_option maxHeartbeats 4000000 in
theorem meets_nn (n f : Int) (liars cap mcap pcap : Nat) (a ma pa : Option Addr) (l : List Say) (m : List Int) (pp : List (List Lg.Pay)) (c : Cfg) (s : St) (hs0 : (run c (Mo.start c) l).1 = s) (hl : l.length ≤ 120)
    (hp : ∀ w : World, SRow w a l → Calls Tryd.prog 9 #[.int .i64 n, .int .i64 f, .int .u32 liars, .slice a l.length cap] w (Met w c l)) (hs : SRow w a l) (hm : MRow w ma m) (hpp : PPRow w pa pp) (hg : Laid w)
    (hx : ledCode m 0 ≠ 0) (hy : bookCode c s m pp ≠ 0) :
    Calls Tryd.prog 5 #[.int .i64 n, .int .i64 f, .int .u32 liars, .slice a l.length cap, .slice ma m.length mcap, .slice pa pp.length pcap] w (Yes w) := by
  have hP := Lib.hid hp
  have HS := Lib.hid (And.intro hs (And.intro hm (And.intro hpp (And.intro hg hs0))))
  have hgp := Lib.hid hg.pos
  clear hp hs hm hpp hg hs0
  have HX := Lib.hid (And.intro hx hy)
  clear hx hy
  go_enter Tryd.func5, Tryd.ntmps5
  go_wp2_with fail
  refine (hP.out _ HS.out.1).mono ?_
  intro e w1 hmet
  obtain ⟨s2, cx, cc0, gb, cb, gc, cc, gd, hst, hw, rfl, hM, hcod, hb1, gb1, gc1, gd1⟩ := hmet.parts
  obtain rfl : s = s2 := HS.out.2.2.2.2.symm.trans hst
  have hC := code_row hcod (run_length l)
  have hb2 : Below w1.heap.size w1 (w1.alloc (.cells #[.slice cx l.length cc0, .slice (some ⟨gb, 0, none⟩) s.blocks.length cb, .slice (some ⟨gc, 0, none⟩) s.blocks.length cc, .slice (some ⟨gd, 0, none⟩) s.blocks.length s.blocks.length] 30)) := (Below.refl _ w1).alloc (Nat.le_refl _) _
  have hK2 := Lib.hid (Blk.new w1 30 #[.slice cx l.length cc0, .slice (some ⟨gb, 0, none⟩) s.blocks.length cb, .slice (some ⟨gc, 0, none⟩) s.blocks.length cc, .slice (some ⟨gd, 0, none⟩) s.blocks.length s.blocks.length])
  have hM2 := Lib.hid (hM.later hb2)
  have hC2 := Lib.hid (hC.later hb2)
  have hB2 := Lib.hid (hb1.trans (hb2.mono hb1.size))
  have HWF := Lib.hid (And.intro hw (run_length (c := c) (s := Mo.start c) l))
  clear hM hC hb1 hb2 hcod hmet gb1 gc1 gd1 hw hst
  go_wp2_with fail
  generalize hW2 : w1.alloc _ = W2 at hK2 hM2 hC2 hB2 ⊢
  have HW2 := Lib.hid hW2
  clear hW2
  refine (book_no_nil n f liars cap mcap a ma l m c s HS.out.2.2.2.2 (fun w hs => hP.out w hs) (HS.out.1.later hB2.out) (HS.out.2.1.later hB2.out) (HS.out.2.2.2.1.below hgp.out hB2.out) HX.out.1).mono ?_
  intro e w3 he
  obtain ⟨he, hb⟩ := he
  obtain ⟨q4, hq⟩ : ∃ q : Nat, q = 0 := ⟨0, rfl⟩
  rw [show zeroBooked = .agg #[.slice none 0 q4, .slice none 0 q4, .slice none 0 q4, .slice none 0 q4, .slice none 0 q4, .slice none 0 q4, .slice none 0 q4] from by rw [hq]; rfl] at he
  clear hq
  subst he
  have hb2 : Below w3.heap.size w3 (w3.alloc (.cells #[.slice none 0 q4, .slice none 0 q4, .slice none 0 q4, .slice none 0 q4, .slice none 0 q4, .slice none 0 q4, .slice none 0 q4] 34)) := (Below.refl _ w3).alloc (Nat.le_refl _) _
  have hL4 := Lib.hid (hb.trans (hb2.mono hb.size))
  have hB4 := Lib.hid (hB2.out.trans (hL4.out.mono hB2.out.size))
  have nq1 : (ledCode m 0 != 0) = true := by simpa using HX.out.1
  have eq1 : (ledCode m 0 == 0) = false := by simpa using HX.out.1
  clear hb hb2
  generalize hW4 : w3.alloc (.cells #[.slice none 0 q4, .slice none 0 q4, .slice none 0 q4, .slice none 0 q4, .slice none 0 q4, .slice none 0 q4, .slice none 0 q4] 34) = W4 at hL4 hB4
  have HW4 := Lib.hid hW4
  go_wp2_with fail
  clear hW4
  refine (book_no n f liars cap mcap pcap a ma pa l m pp c s HS.out.2.2.2.2 (fun w hs => hP.out w hs) (HS.out.1.later hB4.out) (HS.out.2.1.later hB4.out) (HS.out.2.2.1.later hB4.out) (HS.out.2.2.2.1.below hgp.out hB4.out) HX.out.2).mono ?_
  intro e w5 he
  obtain ⟨he, hb⟩ := he
  obtain ⟨q6, hq⟩ : ∃ q : Nat, q = 0 := ⟨0, rfl⟩
  rw [show zeroBooked = .agg #[.slice none 0 q6, .slice none 0 q6, .slice none 0 q6, .slice none 0 q6, .slice none 0 q6, .slice none 0 q6, .slice none 0 q6] from by rw [hq]; rfl] at he
  clear hq
  subst he
  have hb2 : Below w5.heap.size w5 (w5.alloc (.cells #[.slice none 0 q6, .slice none 0 q6, .slice none 0 q6, .slice none 0 q6, .slice none 0 q6, .slice none 0 q6, .slice none 0 q6] 34)) := (Below.refl _ w5).alloc (Nat.le_refl _) _
  have hL6 := Lib.hid (hb.trans (hb2.mono hb.size))
  have hB6 := Lib.hid (hB4.out.trans (hL6.out.mono hB4.out.size))
  have nq2 : (bookCode c s m pp != 0) = true := by simpa using HX.out.2
  have eq2 : (bookCode c s m pp == 0) = false := by simpa using HX.out.2
  clear hb hb2
  generalize hW6 : w5.alloc (.cells #[.slice none 0 q6, .slice none 0 q6, .slice none 0 q6, .slice none 0 q6, .slice none 0 q6, .slice none 0 q6, .slice none 0 q6] 34) = W6 at hL6 hB6
  have HW6 := Lib.hid hW6
  go_wp2_with fail
  clear hW6
  refine (lcheck_calls _ (HS.out.2.1.later hB6.out) HX.out.1).mono ?_
  rintro e w8 ⟨rfl, hb8⟩
  have hB8 := Lib.hid (hB6.out.trans (hb8.mono hB6.out.size))
  clear hb8
  go_wp2_with fail
  go_ret
  exact ⟨rfl, hB8.out⟩
end
end Go.Proofs.YtkcekjpohpenkaaDoor
