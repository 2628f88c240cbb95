import Derived.Test.YtkcekjpohpenkaaDoorMk
set_option linter.unusedVariables false
set_option linter.unusedSimpArgs false
set_option maxRecDepth 100000
namespace Go.Proofs.YtkcekjpohpenkaaDoor
open Go.RowKit Mo
open Go.Maps (Keyed)
section
variable {w w' : World} {B K : Nat} {c : Cfg} {s : St} {o : MOwn}
theorem MAt.set_late (h : MAt w B c s K o) {L : List (Int × Int × Int)} (hl : LateAt w' o.lm L (K + 1)) (hg : w.grownBy w' (some o.lm)) : MAt w' B c { s with late := L } (K + 1) o ∧ Turned o o w w' := by
  have x := h.six
  have hs : ∀ k, o.has k → k ≠ o.lm → w'.heap[k]? = w.heap[k]? := fun k hk hne => hg.block k (h.has_lt hk).1 (fun e => hne (by cases e; rfl))
  have h' := h.more (Nat.le_succ K)
  refine ⟨⟨?_, h.b, h.lm, h.gg, h.ne, h.ob.same (hs _ (.inr (.inl rfl)) x.gb_lm.symm), h.ov.same (hs _ (.inr (.inr (.inl rfl))) x.gv_lm.symm), h.om.same (hs _ (.inr (.inr (.inr (.inl rfl)))) x.gm_lm.symm), hl, h'.gave.same (hs _ (.inr (.inr (.inr (.inr (.inr rfl))))) x.lm_gg)⟩,
    Turned.of_grown hg (.inr (.inr (.inr (.inr (.inl rfl)))))⟩
  exact (hs o.b (.inl rfl) x.b_lm.symm).trans h.blk
theorem MAt.set_gave (h : MAt w B c s K o) {L : List (Int × Int)} (hl : GaveAt w' o.gg L (K + 1)) (hg : w.grownBy w' (some o.gg)) : MAt w' B c { s with gave := L } (K + 1) o ∧ Turned o o w w' := by
  have x := h.six
  have hs : ∀ k, o.has k → k ≠ o.gg → w'.heap[k]? = w.heap[k]? := fun k hk hne => hg.block k (h.has_lt hk).1 (fun e => hne (by cases e; rfl))
  have h' := h.more (Nat.le_succ K)
  refine ⟨⟨?_, h.b, h.lm, h.gg, h.ne, h.ob.same (hs _ (.inr (.inl rfl)) x.gb_gg.symm), h.ov.same (hs _ (.inr (.inr (.inl rfl))) x.gv_gg.symm), h.om.same (hs _ (.inr (.inr (.inr (.inl rfl)))) x.gm_gg.symm), h'.late.same (hs _ (.inr (.inr (.inr (.inr (.inl rfl))))) x.lm_gg.symm), hl⟩,
    Turned.of_grown hg (.inr (.inr (.inr (.inr (.inr rfl)))))⟩
  exact (hs o.b (.inl rfl) x.b_gg.symm).trans h.blk

set_option maxHeartbeats 400000 in
theorem give_out (x : Say) (hr : x.round < 1 ∨ 1000 < x.round) (b : Nat) :
    Calls Tryd.prog 33 #[.pointer (some ⟨b, 0, none⟩), sayV x] w (Still w 2) := by
  obtain ⟨kind, who, block, round, high⟩ := x
  simp only at hr
  unfold sayV
  by_cases h1 : round < 1
  · go_enter Tryd.func33, Tryd.ntmps33
    go_wp2_with fail
    go_ret
    exact ⟨rfl, (Below.refl _ _).alloc (Nat.le_refl _) _⟩
  · have h2 : 1000 < round := by omega
    go_enter Tryd.func33, Tryd.ntmps33
    go_wp2_with fail
    go_ret
    exact ⟨rfl, (Below.refl _ _).alloc (Nat.le_refl _) _⟩

theorem cell_two (w : World) (o1 : Obj) (cs : Array Value) (t : TypeId) (i : Nat) {v : Value} (h : cs[i]? = some v) : ((w.alloc o1).alloc (.cells cs t)).cell? ⟨w.heap.size + 1, i, none⟩ = some v := by
  have e : w.heap.size + 1 = (w.alloc o1).heap.size := by simp
  rw [e, World.cell?_alloc_new, h]

/-- the blocks that a liar may name -/
def named (c : Cfg) (s : St) (h : Int) (b : Nat) : Bool := decide (rnd s b = h) && certified c s b

theorem named_more {k : Nat} {high : Int} (h : ∀ j, j < k → named c s high j = false) (hk : named c s high k = false) : ∀ j, j < k + 1 → named c s high j = false := by
  intro j hj
  rcases Nat.lt_or_ge j k with h1 | h1
  · exact h j h1
  · have : j = k := by omega
    subst this
    exact hk

theorem cell_drewN {w : World} {o : Obj} {n : Nat} {a : Addr} {v : Value} (h : w.cell? a = some v) : ((w.alloc o).drewN n).cell? a = some v :=
  (World.cell?_of_block (w := w) (Below.heap_alloc w o a.block (World.block_lt_of_cell? w a h))).trans h
def LiarPost (w : World) (B : Nat) (c : Cfg) (s : St) (K : Nat) (o : MOwn) (x : Say) (e : Ending) (w' : World) : Prop :=
  if (List.range s.blocks.length).any (named c s x.high) = true then Did w B c { s with late := (x.round, x.who, x.high) :: s.late } (K + 1) o 0 e w' else Did w B c s (K + 1) o 2 e w'
theorem liar_yes {x : Say} {k : Nat} {e : Ending} (hk : k < s.blocks.length) (hn : named c s x.high k = true) (hd : Did w B c { s with late := (x.round, x.who, x.high) :: s.late } (K + 1) o 0 e w') : LiarPost w B c s K o x e w' := by
  unfold LiarPost
  rw [if_pos (List.any_eq_true.2 ⟨k, List.mem_range.2 hk, hn⟩)]
  exact hd
theorem liar_no {x : Say} {e : Ending} (hn : ∀ j, j < s.blocks.length → named c s x.high j = false) (hd : Did w B c s (K + 1) o 2 e w') : LiarPost w B c s K o x e w' := by
  unfold LiarPost
  rw [if_neg]
  · exact hd
  · intro h
    obtain ⟨k, hk, h1⟩ := List.any_eq_true.1 h
    rw [hn k (List.mem_range.1 hk)] at h1
    cases h1
def lateSt (s : St) (x : Int × Int × Int) : St := { s with late := x :: s.late }

set_option maxHeartbeats 400000 in
theorem give_liar (h : MAt w B c s K o) (hw : WF c s) (x : Say) (i : Nat) (hx : x.who = i) (hi : i < c.n) (hr1 : 1 ≤ x.round) (hr2 : x.round ≤ 1000) (hl : lies c i = true) (hK : K ≤ 1000) :
    Calls Tryd.prog 33 #[.pointer (some ⟨o.b, 0, none⟩), sayV x] w (LiarPost w B c s K o x) := by
  obtain ⟨kind, who, block, round, high⟩ := x
  simp only at hx hr1 hr2
  subst hx
  have hL := Lib.hid hl
  have hi7 : i ≤ 7 := by have := hw.n7; omega
  have c3 := h.c3
  have lb := h.blk.lt
  have hM := Lib.hid ((h.alloc (.cells #[.int .i64 kind, .int .i64 i, .int .i64 block, .int .i64 round, .int .i64 high] 47)).alloc (.cells #[.int .i64 round, .int .i64 i, .int .i64 high] 105))
  clear hl
  unfold sayV
  go_enter Tryd.func33, Tryd.ntmps33
  go_wp2_with (go_at_call 44; refine (lies_is hM.out hw (by omega) hL.out).mono ?_; rintro e w' ⟨rfl, rfl⟩)
  have s4 : ((w.alloc (.cells #[.int .i64 kind, .int .i64 i, .int .i64 block, .int .i64 round, .int .i64 high] 47)).alloc (.cells #[.int .i64 round, .int .i64 i, .int .i64 high] 105)).cell? ⟨w.heap.size, 4, none⟩ = some (.int .i64 high) := by simp
  have g0 : ((w.alloc (.cells #[.int .i64 kind, .int .i64 i, .int .i64 block, .int .i64 round, .int .i64 high] 47)).alloc (.cells #[.int .i64 round, .int .i64 i, .int .i64 high] 105)).cell? ⟨w.heap.size + 1, 0, none⟩ = some (.int .i64 round) := cell_two w _ _ 105 0 rfl
  have g1 : ((w.alloc (.cells #[.int .i64 kind, .int .i64 i, .int .i64 block, .int .i64 round, .int .i64 high] 47)).alloc (.cells #[.int .i64 round, .int .i64 i, .int .i64 high] 105)).cell? ⟨w.heap.size + 1, 1, none⟩ = some (.int .i64 i) := cell_two w _ _ 105 1 rfl
  have g2 : ((w.alloc (.cells #[.int .i64 kind, .int .i64 i, .int .i64 block, .int .i64 round, .int .i64 high] 47)).alloc (.cells #[.int .i64 round, .int .i64 i, .int .i64 high] 105)).cell? ⟨w.heap.size + 1, 2, none⟩ = some (.int .i64 high) := cell_two w _ _ 105 2 rfl
  have HB := Lib.hid (((Below.refl w.heap.size w).alloc (Nat.le_refl _) (.cells #[.int .i64 kind, .int .i64 i, .int .i64 block, .int .i64 round, .int .i64 high] 47)).alloc (by simp) (.cells #[.int .i64 round, .int .i64 i, .int .i64 high] 105))
  generalize ((w.alloc (.cells #[.int .i64 kind, .int .i64 i, .int .i64 block, .int .i64 round, .int .i64 high] 47)).alloc (.cells #[.int .i64 round, .int .i64 i, .int .i64 high] 105)) = w1 at s4 g0 g1 g2 HB hM ⊢
  have ls := World.block_lt_of_cell? w1 _ s4
  have lg := World.block_lt_of_cell? w1 _ g0
  simp only at ls lg
  have hl40 := hw.len40
  go_loopw [34] (fun v wr => ∃ k : Nat, v = .int .i64 k ∧ k ≤ s.blocks.length ∧ Below w1.heap.size w1 wr ∧ ∀ j, j < k → named c s high j = false) (fun v _ => s.blocks.length - (intOf v).toNat)
  case atStart => exact ⟨0, rfl, by omega, Below.refl _ _, fun j hj => absurd hj (by omega)⟩
  case round =>
    obtain ⟨k, rfl, hk, hbr, hno⟩ := hrel
    have HN := Lib.hid hno
    clear hno
    have hMr := Lib.hid (hM.out.below hbr)
    have r4 := (hbr.cell (p := ⟨w.heap.size, 4, none⟩) ls).trans s4
    have q0 := (hbr.cell (p := ⟨w.heap.size + 1, 0, none⟩) lg).trans g0
    have q1 := (hbr.cell (p := ⟨w.heap.size + 1, 1, none⟩) lg).trans g1
    have q2 := (hbr.cell (p := ⟨w.heap.size + 1, 2, none⟩) lg).trans g2
    have ls' := Nat.lt_of_lt_of_le ls hbr.size
    have lg' := Nat.lt_of_lt_of_le lg hbr.size
    have d6 := hMr.out.c6
    have lb' := hMr.out.blk.lt
    by_cases hlt : k < s.blocks.length
    · have p0 := hMr.out.par hlt
      have p1 := hMr.out.rnd hlt
      by_cases hq : Mo.rnd s k = high
      · cases hc : certified c s k with
        | true =>
          have hC := Lib.hid hc
          rw [hq] at p1
          clear hc
          go_upto_region 9 with (go_at_call 18; refine (cert_is (hMr.out.alloc _) hw hlt hC.out).mono ?_; rintro e w' ⟨rfl, nq, rfl⟩)
          have hrh := hw.rnd k hlt
          rw [hq] at hrh
          obtain ⟨kl, hkl⟩ := gv_key round i high (WalkArith.wf_i64 (by omega)) (WalkArith.wf_i64 (by omega)) (WalkArith.wf_i64 (by omega))
          have q0' := cell_drewN (o := .cells #[.int .i64 (Mo.par s k), .int .i64 high] 45) (n := nq) q0
          have q1' := cell_drewN (o := .cells #[.int .i64 (Mo.par s k), .int .i64 high] 45) (n := nq) q1
          have q2' := cell_drewN (o := .cells #[.int .i64 (Mo.par s k), .int .i64 high] 45) (n := nq) q2
          have d6' := cell_drewN (o := .cells #[.int .i64 (Mo.par s k), .int .i64 high] 45) (n := nq) d6
          have hM2 := Lib.hid ((hMr.out.alloc (.cells #[.int .i64 (Mo.par s k), .int .i64 high] 45)).drewN nq)
          have HB2 := Lib.hid (below_drewN (hbr.alloc hbr.size (.cells #[.int .i64 (Mo.par s k), .int .i64 high] 45)) nq)
          clear q0 q1 q2 d6 p0 p1 r4 ls' lg' lb' hMr
          generalize (wr.alloc (.cells #[.int .i64 (Mo.par s k), .int .i64 high] 45)).drewN nq = w2 at q0' q1' q2' d6' hM2 HB2 ⊢
          obtain ⟨w3, hput, hl3, hg3⟩ := late_put (w := w2.drew) (hM2.out.drewN 1).late (round, (i : Int), high) hkl hK
          have hput' : (Instr.mapUpdate 67 (.map (some o.lm)) (.agg #[.int .i64 round, .int .i64 i, .int .i64 high]) (.int .i64 1)).run Tryd.prog w2.drew = .ok () w3 := hput
          clear hput
          have hfin := Lib.hid ((hM2.out.drewN 1).set_late hl3 hg3)
          clear hl3 hg3
          go_region
          all_goals go_wp2_with fail
          all_goals go_ret
          all_goals exact liar_yes hlt (by simp [named, hq, hC.out]) ⟨o, rfl, hfin.out.1, (Turned.of_below HB.out).trans ((Turned.of_below HB2.out).trans ((Turned.of_below (below_drewN (Below.refl _ _) 1)).trans hfin.out.2)), rfl⟩
        | false =>
          have hC := Lib.hid hc
          rw [hq] at p1
          clear hc
          go_wp2_with (go_at_call 18; refine (cert_is (hMr.out.alloc _) hw hlt hC.out).mono ?_; rintro e w' ⟨rfl, nq, rfl⟩)
          exact ⟨⟨k + 1, by go_num, by omega, below_drewN (hbr.alloc hbr.size _) nq, named_more HN.out (by simp [named, hC.out])⟩, by simp [intOf]; omega⟩
      · have hq' : (Mo.rnd s k == high) = false := by simpa using hq
        go_wp2_with fail
        exact ⟨⟨k + 1, by go_num, by omega, hbr.alloc hbr.size _, named_more HN.out (by simp [named, hq])⟩, by simp [intOf]; omega⟩
    · have : k = s.blocks.length := by omega
      subst this
      go_wp2_with fail
      go_ret
      exact liar_no HN.out ⟨o, rfl, hMr.out.more (Nat.le_succ K), (Turned.of_below HB.out).trans (Turned.of_below hbr), rfl⟩
end
end Go.Proofs.YtkcekjpohpenkaaDoor
