import Derived.Test.YtkcekjpohpenkaaSafeWalk
import Derived.Test.YtkcekjpohpenkaaNh
import Derived.Test.YtkcekjpohpenkaaNf
import Derived.Deep.OwnRows
import Derived.Sort.QuietIn
/- MootVotes' walk. -/
set_option linter.unusedVariables false
set_option linter.unusedSimpArgs false
namespace Go.Proofs.Ytkcekjpohpenkaa
open Go.RowKit Mo

def intsZ (k : Nat) : Array Value := (List.replicate k (Value.int .i64 0)).toArray
theorem make_ints (k : Nat) (hk : k ≤ 1000) : ∀ W : World, (Instr.makeSlice 37 (.int .i64 (k : Int)) (.int .i64 (k : Int))).run Try.prog W = .ok (.slice (some ⟨W.heap.size, 0, none⟩) k k) (W.alloc (.cells (intsZ k) 3)) := by
  intro W
  have hm := run_make_row' (P := Try.prog) 37 3 (.int .i64 0) 8 Try.underlying37 (by kernel_rfl) rfl .i64 .i64 k (by omega) (by omega) W
  rw [hm]
  have e : madeCells #[Value.int .i64 0] k = intsZ k := by
    apply Array.toList_inj.1
    rw [toList_madeCells_one]
    simp [intsZ]
  rw [e]

theorem blk_vs {W : World} {g : Nat} {vs : List Nat} (h : Blk W g 3 (intL vs).toArray) (b : Nat) (x : Nat) : Blk (W.setCell ⟨g, b, none⟩ (.int .i64 x)) g 3 (intL (vs.set b x)).toArray := by
  have h2 := h.set_ b (.int .i64 x)
  rw [show (intL (vs.set b x)).toArray = (intL vs).toArray.setIfInBounds b (.int .i64 x) by simp [intL, List.map_set]]
  exact h2
theorem blk_ls {W : World} {g : Nat} {ls : List Int} (h : Blk W g 3 (ls.map (Value.int .i64)).toArray) (i : Nat) (x : Int) : Blk (W.setCell ⟨g, i, none⟩ (.int .i64 x)) g 3 ((ls.set i x).map (Value.int .i64)).toArray := by
  have h2 := h.set_ i (.int .i64 x)
  rw [show ((ls.set i x).map (Value.int .i64)).toArray = (ls.map (Value.int .i64)).toArray.setIfInBounds i (.int .i64 x) by simp [List.map_set]]
  exact h2
theorem votes_next {c : Cfg} {sk s : St} {vs : List Nat} {ls ls' : List Int} {x : Say} {i b v0 : Nat} {r0 : Int} {t : St} (h : Tally c sk s.blocks.length vs ls) (hw : WF c sk) (hL : sk.blocks.length ≤ s.blocks.length)
    (hi : i < c.n) (hb : b < sk.blocks.length) (hn : has sk b i = false) (he : (Mo.step c sk x).1.votes = sk.votes.set b (sk.votes.getD b 0 ||| 2 ^ i))
    (hv : lies c i = false → voted (Mo.step c sk x).1 i = rnd sk b) (ht : t = (Mo.step c sk x).1) (h0 : vs.getD b 0 = v0) (hr : rnd s b = rnd sk b) (hr0 : rnd s b = r0)
    (hls : (lies c i = true ∧ ls' = ls) ∨ (lies c i = false ∧ ls' = ls.set i r0)) : Tally c t s.blocks.length (vs.set b (v0 + 1)) ls' := by
  have h2 := tally_vote h hw hL hi hb hn he hv
  rw [h0, ← hr, hr0] at h2
  subst ht
  rcases hls with ⟨hl, rfl⟩ | ⟨hl, rfl⟩
  · rw [hl] at h2
    simpa using h2
  · rw [hl] at h2
    simpa using h2

section
variable {w : World}
set_option maxHeartbeats 1000000 in
set_option maxRecDepth 100000 in
theorem votes_err (n f : Int) (liars cap : Nat) (a : Option Addr) (l : List Say) (code : Int) (hcode : code ≠ 0)
    (hp : ∀ w : World, Calls Try.prog 8 #[.int .i64 n, .int .i64 f, .int .u32 liars, .slice a l.length cap] w fun e w' => e = .returned (.tuple #[zeroMeeting, .int .i64 code]) ∧ Below w.heap.size w w') :
    Calls Try.prog 7 #[.int .i64 n, .int .i64 f, .int .u32 liars, .slice a l.length cap] w (Yes w) := by
  have hP := Lib.hid (hp w)
  clear hp
  have hc1 : (code != 0) = true := by simpa using hcode
  unfold zeroMeeting at hP
  go_enter Try.func7, Try.ntmps7
  go_wp2_with (go_at_call 8; refine (hP.out).mono ?_; rintro e w1 ⟨rfl, hb1⟩; have HB := Lib.hid hb1; clear hb1)
  go_ret
  exact ⟨rfl, HB.out.alloc HB.out.size _⟩

set_option maxHeartbeats 1000000 in
set_option maxRecDepth 100000 in
theorem votes_ok (N F need liars cap : Nat) (a : Option Addr) (l : List Say) (h1 : 1 ≤ N) (h7 : N ≤ 7) (hF : F ≤ (N - 1) / 3) (hneed : need = N - F) (hl : liars < 2 ^ N) (h120 : l.length ≤ 120) (hs : SRow w a l)
    (hp : Calls Try.prog 8 #[.int .i64 N, .int .i64 F, .int .u32 liars, .slice a l.length cap] w (Met w { n := N, need := need, liars := liars } l)) :
    Calls Try.prog 7 #[.int .i64 N, .int .i64 F, .int .u32 liars, .slice a l.length cap] w (Yes w) := by
  have hP := Lib.hid hp
  clear hp
  have hc0 := Lib.hid (inv_run (inv_start (c := { n := N, need := need, liars := liars }) h1 h7 (by simp only; omega) hl) l)
  have H0 := Lib.hid (And.intro hF (And.intro hneed hs))
  clear hF hneed hs
  have hmkN := make_ints N (by omega)
  go_enter Try.func7, Try.ntmps7
  go_wp2_with (first
    | (go_at_call 8
       refine (hP.out).mono ?_
       intro e w1 hm
       obtain ⟨s, cx, cc0, gb, cb, gc, cc, gd, hst, hw, rfl, hM, hcod, hb1⟩ := hm.parts
       have hI := Lib.hid (show Inv _ s from hst ▸ hc0.out)
       have hW := Lib.hid hw
       have hmkL := make_ints s.blocks.length (by have := hw.len40; omega)
       have hM1 := Lib.hid hM
       have hB1 := Lib.hid hb1
       have hb2 := hb1.alloc hb1.size (.cells #[.slice cx l.length cc0, .slice (some ⟨gb, 0, none⟩) s.blocks.length cb, .slice (some ⟨gc, 0, none⟩) s.blocks.length cc, .slice (some ⟨gd, 0, none⟩) s.blocks.length s.blocks.length] 28)
       have hM2 := hM.later ((Below.refl _ w1).alloc (Nat.le_refl _) (.cells #[.slice cx l.length cc0, .slice (some ⟨gb, 0, none⟩) s.blocks.length cb, .slice (some ⟨gc, 0, none⟩) s.blocks.length cc, .slice (some ⟨gd, 0, none⟩) s.blocks.length s.blocks.length] 28))
       have hk2 := Blk.new w1 28 #[.slice cx l.length cc0, .slice (some ⟨gb, 0, none⟩) s.blocks.length cb, .slice (some ⟨gc, 0, none⟩) s.blocks.length cc, .slice (some ⟨gd, 0, none⟩) s.blocks.length s.blocks.length]
       have hMM2 := Lib.hid hM2
       have hBB2 := Lib.hid hb2
       have hKK2 := Lib.hid hk2
       have hmet := Lib.hid (met_calls (cx := cx) (ccap := cc0) (cb := cb) (gc := gc) (cc := cc) (gd := gd) (dc := s.blocks.length) (a := a) (scap := cap) l.length hM2.blocks (WF.chn hw))
       have hCod := Lib.hid hcod
       have hSt := Lib.hid hst
       clear hm hM hb1 hb2 hM2 hk2 hst hw hcod)
    | (go_at_call 9
       refine (hmet.out).mono ?_
       rintro e w3 ⟨rfl, hb3⟩
       have hW13 := Lib.hid (((Below.refl w1.heap.size w1).alloc (Nat.le_refl _) (.cells #[.slice cx l.length cc0, .slice (some ⟨gb, 0, none⟩) s.blocks.length cb, .slice (some ⟨gc, 0, none⟩) s.blocks.length cc, .slice (some ⟨gd, 0, none⟩) s.blocks.length s.blocks.length] 28)).trans (hb3.mono (by simp)))
       have hM3 := Lib.hid (hMM2.out.later hb3)
       have hB3 := Lib.hid (hBB2.out.trans (hb3.mono hBB2.out.size))
       have hK3 : Blk w3 _ _ _ := hKK2.out.below hb3 hKK2.out.lt
       have m1 := hK3.cell 1
       have m2 := hK3.cell 2
       have m3 := hK3.cell 3
       have ml := hK3.lt
       simp only [List.getElem?_toArray, List.getElem?_cons_zero, List.getElem?_cons_succ] at m1 m2 m3
       have hKK3 := Lib.hid hK3
       have m0 := hK3.cell 0
       simp only [List.getElem?_toArray, List.getElem?_cons_zero] at m0
       clear hb3 hK3))
  have sl1 := hW.out.len1
  have sl40 := hW.out.len40
  have hG : ∀ k, Grow (run { n := N, need := need, liars := liars } (Mo.start { n := N, need := need, liars := liars }) (l.take k)).1 s := fun k => hSt.out ▸ run_take_grow (c := { n := N, need := need, liars := liars }) h1 h7 (by have := H0.out.2.1; simp only; omega) hl l k
  have hGG := Lib.hid hG
  clear hG
  have hB4 := Lib.hid (((Below.refl w3.heap.size w3).alloc (Nat.le_refl _) (.cells (intsZ s.blocks.length) 3)).alloc (by simp) (.cells (intsZ N) 3))
  have hV4 := (Blk.new w3 3 (intsZ s.blocks.length)).alloc (.cells (intsZ N) 3)
  have hL4 := Blk.new (w3.alloc (.cells (intsZ s.blocks.length) 3)) 3 (intsZ N)
  rw [World.size_alloc] at hL4
  generalize (w3.alloc (.cells (intsZ s.blocks.length) 3)).alloc (.cells (intsZ N) 3) = W4 at hB4 hV4 hL4 ⊢
  have hV4' := Lib.hid hV4
  have hL4' := Lib.hid hL4
  clear hV4 hL4
  go_loopw [43] (fun v wr => ∃ (k : Nat) (vs : List Nat) (ls : List Int), v = .int .i64 k ∧ k ≤ l.length ∧ Tally { n := N, need := need, liars := liars } (run { n := N, need := need, liars := liars } (Mo.start { n := N, need := need, liars := liars }) (l.take k)).1 s.blocks.length vs ls ∧
      Below w3.heap.size w3 wr ∧ Blk wr w3.heap.size 3 (intL vs).toArray ∧ Blk wr (w3.heap.size + 1) 3 (ls.map (Value.int .i64)).toArray) (fun v _ => l.length - (intOf v).toNat)
  case atStart =>
    refine ⟨0, List.replicate s.blocks.length 0, List.replicate N 0, rfl, by omega, tally_start _, hB4.out, ?_, ?_⟩
    · have := hV4'.out
      simpa [intsZ, intL] using this
    · have := hL4'.out
      simpa [intsZ] using this
  case round =>
    obtain ⟨k, vs, ls, rfl, hk, hT, hbr, hV, hL⟩ := hrel
    have hA1 : Blk wr _ _ _ := hKK3.out.below hbr hKK3.out.lt
    have n0 := hA1.cell 0
    have n1 := hA1.cell 1
    have n2 := hA1.cell 2
    simp only [List.getElem?_toArray, List.getElem?_cons_zero, List.getElem?_cons_succ] at n0 n1 n2
    have hMr := Lib.hid (hM3.out.later hbr)
    have hbr' := Lib.hid hbr
    have lwr := hbr.size
    have hTT := Lib.hid hT
    have hVV := Lib.hid hV
    have hLL := Lib.hid hL
    have nlt := hA1.lt
    by_cases hkl : k = l.length
    · subst hkl
      clear hbr hT hV hL hA1
      go_wp2_with fail
      rw [List.take_length, hSt.out] at hTT
      have hvv : ∀ b : Nat, 1 ≤ b → b < s.blocks.length → decide (need ≤ vs.getD b 0) = certified { n := N, need := need, liars := liars } s b := by
        intro b h0 hb
        rw [hTT.out.v, if_pos hb]
        unfold certified
        have hb0 : (b == 0) = false := by simp; omega
        rw [hb0, Bool.false_or]
      have hvv' := Lib.hid hvv
      clear hvv
      go_loopw [16] (fun v wx => ∃ b : Nat, v = .int .i64 b ∧ 1 ≤ b ∧ b ≤ s.blocks.length ∧ Below wr.heap.size wr wx) (fun v _ => s.blocks.length - (intOf v).toNat)
      case atStart => exact ⟨1, rfl, by omega, by omega, Below.refl _ _⟩
      case round =>
        obtain ⟨b, rfl, hb1, hb, hbx⟩ := hrel
        have hA2 : Blk _ _ _ _ := (hKK3.out.below hbr'.out hKK3.out.lt).below hbx (Nat.lt_of_lt_of_le hKK3.out.lt hbr'.out.size)
        have o1 := hA2.cell 1
        have o2 := hA2.cell 2
        simp only [List.getElem?_toArray, List.getElem?_cons_zero, List.getElem?_cons_succ] at o1 o2
        have hMx := hMr.out.later hbx
        have hbx' := Lib.hid hbx
        by_cases hbl : b = s.blocks.length
        · subst hbl
          have c0 := hMx.cert 0 (by omega)
          have e0 : certified { n := N, need := need, liars := liars } s 0 = true := by simp [certified]
          rw [e0] at c0
          clear hbx hA2 hMx
          go_wp2_with fail
          go_ret
          exact ⟨rfl, hB3.out.trans ((hbr'.out.trans (hbx'.out.mono hbr'.out.size)).mono hB3.out.size)⟩
        · have hbl' : b < s.blocks.length := by omega
          have cb := hMx.cert b hbl'
          have vb : _ = _ := (hVV.out.below hbx hVV.out.lt).cell b
          have hvb := hvv'.out b hb1 hbl'
          have hvl := hTT.out.vlen
          have hvb2 : (intL vs).toArray[b]? = some (.int .i64 ((vs.getD b 0 : Nat) : Int)) := by
            have : b < vs.length := by omega
            simp [intL, this]
          rw [hvb2] at vb
          have hne := Lib.hid hbl
          clear hbx hA2 hMx hbl hvb2
          generalize certified { n := N, need := need, liars := liars } s b = b1 at cb hvb
          generalize vs.getD b 0 = vv at vb hvb
          have hvb2 : decide ((need : Int) ≤ (vv : Int)) = b1 := by rw [← hvb]; simp
          have hneed2 : (N : Int) - F = need := by have := H0.out.1; have := H0.out.2.1; omega
          cases b1
          all_goals go_wp2_with fail
          all_goals go_quiet (fail)
          all_goals go_wp2_with fail
          all_goals exact ⟨⟨b + 1, by simp, by omega, by omega, below_drewN hbx'.out nq⟩, by simp [intOf]; omega⟩
    · have hkl' : k < l.length := by omega
      obtain ⟨ab, rfl, hab, hx⟩ := H0.out.2.2.row k hkl'
      obtain ⟨x, hxl⟩ : ∃ x, l[k]? = some x := ⟨_, List.getElem?_eq_getElem hkl'⟩
      obtain ⟨x0, x1, x2, x3, x4⟩ := hx x hxl
      have hww : Below w.heap.size w wr := hB3.out.trans (hbr.mono hB3.out.size)
      have y0 : wr.cell? (ab.add (k * 5)) = some (.int .i64 x.kind) := (hww.cell (p := ab.add (k * 5)) (by rw [addr_block]; exact hab)).trans x0
      have y1 : wr.cell? ⟨(ab.add (k * 5)).block, (ab.add (k * 5)).off + 1, none⟩ = some (.int .i64 x.who) := by show wr.cell? ((ab.add (k * 5)).add 1) = _; rw [addr_twice]; exact (hww.cell (p := ab.add (k * 5 + 1)) (by rw [addr_block]; exact hab)).trans x1
      have y2 : wr.cell? ⟨(ab.add (k * 5)).block, (ab.add (k * 5)).off + 2, none⟩ = some (.int .i64 x.block) := by show wr.cell? ((ab.add (k * 5)).add 2) = _; rw [addr_twice]; exact (hww.cell (p := ab.add (k * 5 + 2)) (by rw [addr_block]; exact hab)).trans x2
      have y3 : wr.cell? ⟨(ab.add (k * 5)).block, (ab.add (k * 5)).off + 3, none⟩ = some (.int .i64 x.round) := by show wr.cell? ((ab.add (k * 5)).add 3) = _; rw [addr_twice]; exact (hww.cell (p := ab.add (k * 5 + 3)) (by rw [addr_block]; exact hab)).trans x3
      have y4 : wr.cell? ⟨(ab.add (k * 5)).block, (ab.add (k * 5)).off + 4, none⟩ = some (.int .i64 x.high) := by show wr.cell? ((ab.add (k * 5)).add 4) = _; rw [addr_twice]; exact (hww.cell (p := ab.add (k * 5 + 4)) (by rw [addr_block]; exact hab)).trans x4
      obtain ⟨g0, cap0, hcx, hg0, hg0l⟩ := hCod.out.form (by omega)
      have hco := hCod.out
      rw [hcx] at hco
      have hcode : w1.cell? ⟨g0, k, none⟩ = some (.int .i64 (Mo.step { n := N, need := need, liars := liars } (run { n := N, need := need, liars := liars } (Mo.start { n := N, need := need, liars := liars }) (l.take k)).1 x).2) := by
        rw [World.ownsRow.cellAt hco k (by omega), codeCells, List.getElem?_map, codes_at _ l k x hxl]
        rfl
      simp only [Value.slice.injEq] at hcx
      obtain ⟨rfl, _, rfl⟩ := hcx
      have hcw := ((hW13.out.trans (hbr.mono hW13.out.size)).cell (p := ⟨g0, k, none⟩) hg0l).trans hcode
      have hg0w : g0 < wr.heap.size := Nat.lt_of_lt_of_le hg0l (Nat.le_trans hW13.out.size hbr.size)
      have hIk := Lib.hid (inv_run (inv_start (c := { n := N, need := need, liars := liars }) h1 h7 (by have := H0.out.2.1; simp only; omega) hl) (l.take k))
      have hGk := hGG.out k
      have hnx := run_take_succ (c := { n := N, need := need, liars := liars }) (Mo.start { n := N, need := need, liars := liars }) l k x hxl
      generalize (run { n := N, need := need, liars := liars } (Mo.start { n := N, need := need, liars := liars }) (l.take k)).1 = sk at hcw hIk hGk hnx hTT hT
      have hgw : ab.block < wr.heap.size := Nat.lt_of_lt_of_le hab hww.size
      have HX := Lib.hid (And.intro hkl (And.intro hxl hnx))
      have HG := Lib.hid hGk
      clear hkl hxl hnx hGk hcode hco x0 x1 x2 x3 x4 hx hT hV hL hA1 hbr hww
      by_cases hk2 : x.kind = 2
      · have hk2' : (x.kind != 2) = false := by simpa using hk2
        by_cases hcd : (Mo.step { n := N, need := need, liars := liars } sk x).2 = 0
        · obtain ⟨i, b, hwho, hblk, hin, hb0, hbs, hno, hag, hsb, hsv, hvo⟩ := voted_ok hIk.out.wf hk2 hcd
          have hin7 : i < N := hin
          have hbl : b < s.blocks.length := Nat.lt_of_lt_of_le hbs HG.out.len
          have hri := hMr.out.blocks.rnd b hbl
          change wr.cell? ⟨gb, b * 2 + 1, none⟩ = some (.int .i64 (Mo.rnd s b)) at hri
          have hrs := HG.out.rnd hbs
          have hgbw := hMr.out.blocks.gb
          have hvl := hTT.out.vlen
          have hll := hTT.out.llen
          have hvc := hVV.out.cell b
          have hlc := hLL.out.cell i
          have hvb2 : (intL vs).toArray[b]? = some (.int .i64 ((vs.getD b 0 : Nat) : Int)) := by
            have : b < vs.length := by omega
            simp [intL, this]
          have hlb2 : (ls.map (Value.int .i64)).toArray[i]? = some (.int .i64 (ls.getD i 0)) := by
            have : i < ls.length := by omega
            simp [this]
          rw [hvb2] at hvc
          rw [hlb2] at hlc
          have hvb3 := hvb2
          have hvf := hVV.out.frozen b
          have hlf := hLL.out.frozen i
          have hvlt := hVV.out.lt
          have hllt := hLL.out.lt
          have hvp : vs.getD b 0 ≤ 32 := by rw [hTT.out.v, if_pos hbl]; exact pop_le _
          have hl32 : liars < 4294967296 := Nat.lt_of_lt_of_le hl (Nat.le_trans (Nat.pow_le_pow_right (by omega) h7) (by decide))
          have hin1 := Lib.hid (fun (w : World) (g : Nat) (h : w.cell? ⟨g, 0, none⟩ = some (.int .i64 (b : Int))) => inside_calls w g 1 s.blocks.length b h ⟨by omega, by omega⟩)
          have hin2 := Lib.hid (fun (w : World) (g : Nat) (h : w.cell? ⟨g, 0, none⟩ = some (.int .i64 (i : Int))) => inside_calls w g 1 N i h ⟨by omega, by omega⟩)
          have HV := Lib.hid (And.intro hcd (And.intro hno (And.intro hag (And.intro hsv hvo))))
          have HRS := Lib.hid hrs
          have hlast : lies { n := N, need := need, liars := liars } i = false → decide (Mo.rnd s b ≤ ls.getD i 0) = false := by
            intro hh
            have h1 := hTT.out.l i hin7 hh
            have h2 := hag hh
            rw [decide_eq_false_iff_not]
            omega
          obtain ⟨kind, who, block, round, high⟩ := x
          simp only at hwho hblk hk2 y0 y1 y2 y3 y4 hk2'
          subst hwho hblk
          rw [hcd] at hcw
          clear hno hag hsb hsv hvo hcd hvb2 hlb2 hrs
          have hbit := Lib.hid (fun w => bit_calls w liars i hl32 (by omega))
          generalize hr0 : Mo.rnd s b = r0 at hri hlast
          generalize hv0 : vs.getD b 0 = v0 at hvc hvp hvb3
          generalize hl0 : ls.getD i 0 = l0 at hlc hlast
          have H00 := Lib.hid (And.intro hr0 (And.intro hv0 hl0))
          clear hr0 hv0 hl0
          cases hli : liars.testBit i with
          | true =>
            have HLI := Lib.hid hli
            rw [hli] at hbit
            clear hlast hli hlc hlf hllt
            go_wp2_with fail
            refine (hin1.out _ _ ?_).mono ?_
            · exact World.cell?_alloc_at _ _ _ _ (by simp)
            rintro e w5 ⟨rfl, rfl⟩
            clear hin1
            go_wp2_with fail
            refine (hin2.out _ _ ?_).mono ?_
            · exact World.cell?_alloc_at _ _ _ _ (by simp)
            rintro e w5 ⟨rfl, rfl⟩
            clear hin2
            have hb5 := Lib.hid ((((Below.refl wr.heap.size wr).alloc (Nat.le_refl _) (.cells #[.int .i64 2, .int .i64 i, .int .i64 b, .int .i64 round, .int .i64 high] 42)).alloc (by simp) (.cells #[.int .i64 b] 3)).alloc (by simp; omega) (.cells #[.int .i64 i] 3))
            have hk5 := ((Blk.new wr 42 #[.int .i64 2, .int .i64 i, .int .i64 b, .int .i64 round, .int .i64 high]).alloc (.cells #[.int .i64 b] 3)).alloc (.cells #[.int .i64 i] 3)
            generalize ((wr.alloc (.cells #[.int .i64 2, .int .i64 i, .int .i64 b, .int .i64 round, .int .i64 high] 42)).alloc (.cells #[.int .i64 b] 3)).alloc (.cells #[.int .i64 i] 3) = W5 at hb5 hk5 ⊢
            have z1 := (hb5.out.cell (p := ⟨w1.heap.size, 1, none⟩) nlt).trans n1
            have z2 := (hb5.out.cell (p := ⟨gb, b * 2 + 1, none⟩) hgbw).trans hri
            have z3 := (hb5.out.cell (p := ⟨w3.heap.size, b, none⟩) hvlt).trans hvc
            have z4 := (hb5.out.frozen (p := ⟨w3.heap.size, b, none⟩) hvlt).trans hvf
            have k1 := hk5.cell 1
            have k2 := hk5.cell 2
            have kf := hk5.lt
            simp only [List.getElem?_toArray, List.getElem?_cons_zero, List.getElem?_cons_succ] at k1 k2
            have hV5 := Lib.hid (hVV.out.below hb5.out hvlt)
            have hL5 := Lib.hid (hLL.out.below hb5.out hLL.out.lt)
            have hk5' := Lib.hid hk5
            have lsz := hb5.out.size
            clear n0 n1 n2 hri hvc hvf y0 y1 y2 y3 y4 hcw hk5
            go_wp2_with (go_at_call 14
                         refine (hbit.out _).mono ?_
                         rintro e w5 ⟨rfl, rfl⟩)
            go_region
            go_wp2_with fail
            go_roundw
            case rel => exact ⟨k + 1, vs.set b (v0 + 1), ls, by simp, by omega, votes_next hTT.out hIk.out.wf HG.out.len hin7 hbs HV.out.2.1 HV.out.2.2.2.1 HV.out.2.2.2.2 HX.out.2.2 H00.out.2.1 HRS.out H00.out.1 (.inl ⟨HLI.out, rfl⟩), ((hbr'.out.trans (hb5.out.mono lwr)).setCell (p := ⟨w3.heap.size, b, none⟩) (by simp) (.int .i64 ((v0 + 1 : Nat) : Int))).drew, blk_vs hV5.out b (v0 + 1), hL5.out.far (p := ⟨w3.heap.size, b, none⟩) (by simp) (.int .i64 ((v0 + 1 : Nat) : Int))⟩
            case measure => simp [intOf]; omega
          | false =>
            have HLI := Lib.hid hli
            rw [hli] at hbit
            have hlast' := hlast hli
            clear hlast hli
            go_wp2_with fail
            refine (hin1.out _ _ ?_).mono ?_
            · exact World.cell?_alloc_at _ _ _ _ (by simp)
            rintro e w5 ⟨rfl, rfl⟩
            clear hin1
            go_wp2_with fail
            refine (hin2.out _ _ ?_).mono ?_
            · exact World.cell?_alloc_at _ _ _ _ (by simp)
            rintro e w5 ⟨rfl, rfl⟩
            clear hin2
            have hb5 := Lib.hid ((((Below.refl wr.heap.size wr).alloc (Nat.le_refl _) (.cells #[.int .i64 2, .int .i64 i, .int .i64 b, .int .i64 round, .int .i64 high] 42)).alloc (by simp) (.cells #[.int .i64 b] 3)).alloc (by simp; omega) (.cells #[.int .i64 i] 3))
            have hk5 := ((Blk.new wr 42 #[.int .i64 2, .int .i64 i, .int .i64 b, .int .i64 round, .int .i64 high]).alloc (.cells #[.int .i64 b] 3)).alloc (.cells #[.int .i64 i] 3)
            generalize ((wr.alloc (.cells #[.int .i64 2, .int .i64 i, .int .i64 b, .int .i64 round, .int .i64 high] 42)).alloc (.cells #[.int .i64 b] 3)).alloc (.cells #[.int .i64 i] 3) = W5 at hb5 hk5 ⊢
            have z1 := (hb5.out.cell (p := ⟨w1.heap.size, 1, none⟩) nlt).trans n1
            have z2 := (hb5.out.cell (p := ⟨gb, b * 2 + 1, none⟩) hgbw).trans hri
            have z3 := (hb5.out.cell (p := ⟨w3.heap.size, b, none⟩) hvlt).trans hvc
            have z4 := (hb5.out.frozen (p := ⟨w3.heap.size, b, none⟩) hvlt).trans hvf
            have k1 := hk5.cell 1
            have k2 := hk5.cell 2
            have kf := hk5.lt
            simp only [List.getElem?_toArray, List.getElem?_cons_zero, List.getElem?_cons_succ] at k1 k2
            have hV5 := Lib.hid (hVV.out.below hb5.out hvlt)
            have hL5 := Lib.hid (hLL.out.below hb5.out hLL.out.lt)
            have hk5' := Lib.hid hk5
            have lsz := hb5.out.size
            have z5 := (hb5.out.cell (p := ⟨w3.heap.size + 1, i, none⟩) hllt).trans hlc
            have z6 := (hb5.out.frozen (p := ⟨w3.heap.size + 1, i, none⟩) hllt).trans hlf
            clear hlc hlf
            clear n0 n1 n2 hri hvc hvf y0 y1 y2 y3 y4 hcw hk5
            go_wp2_with (go_at_call 14
                         refine (hbit.out _).mono ?_
                         rintro e w5 ⟨rfl, rfl⟩)
            have hL6 := Lib.hid (blk_ls hL5.out i r0)
            have hV6 := Lib.hid (hV5.out.far (p := ⟨w3.heap.size + 1, i, none⟩) (by simp) (.int .i64 r0))
            have hk6 := hk5'.out.far (p := ⟨w3.heap.size + 1, i, none⟩) (by simp; omega) (.int .i64 r0)
            have hb6 := Lib.hid ((hbr'.out.trans (hb5.out.mono lwr)).setCell (p := ⟨w3.heap.size + 1, i, none⟩) (by simp) (.int .i64 r0))
            generalize W5.setCell ⟨w3.heap.size + 1, i, none⟩ (.int .i64 r0) = W6 at hL6 hV6 hk6 hb6 ⊢
            clear z1 z2 z3 z4 z5 z6 k1 k2 kf lsz
            have z3 := hV6.out.cell b
            rw [hvb3] at z3
            have z4 := hV6.out.frozen b
            have k2 := hk6.cell 2
            have kf := hk6.lt
            have hvl6 := hV6.out.lt
            simp only [List.getElem?_toArray, List.getElem?_cons_zero, List.getElem?_cons_succ] at k2
            clear hk6
            go_region
            go_wp2_with fail
            go_roundw
            case rel => exact ⟨k + 1, vs.set b (v0 + 1), ls.set i r0, by simp, by omega, votes_next hTT.out hIk.out.wf HG.out.len hin7 hbs HV.out.2.1 HV.out.2.2.2.1 HV.out.2.2.2.2 HX.out.2.2 H00.out.2.1 HRS.out H00.out.1 (.inr ⟨HLI.out, rfl⟩), (hb6.out.setCell (p := ⟨w3.heap.size, b, none⟩) (by simp) (.int .i64 ((v0 + 1 : Nat) : Int))).drew, blk_vs hV6.out b (v0 + 1), hL6.out.far (p := ⟨w3.heap.size, b, none⟩) (by simp) (.int .i64 ((v0 + 1 : Nat) : Int))⟩
            case measure => simp [intOf]; omega
        · have HC := Lib.hid hcd
          have hcd2 : ((Mo.step { n := N, need := need, liars := liars } sk x).2 != 0) = true := by simpa using hcd
          generalize hgc : (Mo.step { n := N, need := need, liars := liars } sk x).2 = code at hcw hcd2
          have HC2 := Lib.hid hgc
          clear hgc hcd
          go_wp2_with fail
          exact ⟨⟨k + 1, vs, ls, by simp, by omega, by rw [HX.out.2.2]; exact tally_else hTT.out hIk.out.wf (.inr HC.out), hbr'.out.alloc lwr _, hVV.out.alloc _, hLL.out.alloc _⟩, by simp [intOf]; omega⟩
      · have hk2' : (x.kind != 2) = true := by simpa using hk2
        go_wp2_with fail
        exact ⟨⟨k + 1, vs, ls, by simp, by omega, by rw [HX.out.2.2]; exact tally_else hTT.out hIk.out.wf (.inl hk2), hbr'.out.alloc lwr _, hVV.out.alloc _, hLL.out.alloc _⟩, by simp [intOf]; omega⟩
end
end Go.Proofs.Ytkcekjpohpenkaa
