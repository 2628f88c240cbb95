import Derived.Test.YtkcekjpohpenkaaDoorMl
set_option linter.unusedVariables false
set_option linter.unusedSimpArgs false
set_option maxRecDepth 100000
namespace Go.Proofs.YtkcekjpohpenkaaDoor
open Go.RowKit Mo
open Go.Maps (Keyed)
section
variable {w w' : World} {B K : Nat} {c : Cfg} {s : St} {o : MOwn}
/-- the three blocks that 'giveUp' makes: the step, what is given, the key -/
structure Loc (w : World) (sb : Nat) (kind who block round high g : Int) : Prop where
  say : Blk w sb 47 #[.int .i64 kind, .int .i64 who, .int .i64 block, .int .i64 round, .int .i64 high]
  giv : Blk w (sb + 1) 105 #[.int .i64 round, .int .i64 who, .int .i64 g]
  arr : Blk w (sb + 2) 106 #[.int .i64 who, .int .i64 round]
theorem Loc.keep {sb : Nat} {kind who block round high g : Int} (h : Loc w sb kind who block round high g) (h0 : w'.heap[sb]? = w.heap[sb]?) (h1 : w'.heap[sb + 1]? = w.heap[sb + 1]?) (h2 : w'.heap[sb + 2]? = w.heap[sb + 2]?) : Loc w' sb kind who block round high g :=
  ⟨h0.trans h.say, h1.trans h.giv, h2.trans h.arr⟩
theorem Loc.grown {sb m : Nat} {kind who block round high g : Int} (h : Loc w sb kind who block round high g) (hg : w.grownBy w' (some m)) (hm : m < sb) : Loc w' sb kind who block round high g :=
  h.keep (hg.block _ h.say.lt (by simp; omega)) (hg.block _ h.giv.lt (by simp; omega)) (hg.block _ h.arr.lt (by simp; omega))
theorem loc_new (w : World) (kind who block round high g : Int) : Loc (((w.alloc (.cells #[.int .i64 kind, .int .i64 who, .int .i64 block, .int .i64 round, .int .i64 high] 47)).alloc (.cells #[.int .i64 round, .int .i64 who, .int .i64 g] 105)).alloc (.cells #[.int .i64 who, .int .i64 round] 106)) w.heap.size kind who block round high g := by
  have e1 : (w.alloc (.cells #[.int .i64 kind, .int .i64 who, .int .i64 block, .int .i64 round, .int .i64 high] 47)).heap.size = w.heap.size + 1 := by simp
  have e2 : ((w.alloc (.cells #[.int .i64 kind, .int .i64 who, .int .i64 block, .int .i64 round, .int .i64 high] 47)).alloc (.cells #[.int .i64 round, .int .i64 who, .int .i64 g] 105)).heap.size = w.heap.size + 2 := by simp
  refine ⟨((Blk.new _ _ _).alloc _).alloc _, ?_, ?_⟩
  · have := (Blk.new (w.alloc (.cells #[.int .i64 kind, .int .i64 who, .int .i64 block, .int .i64 round, .int .i64 high] 47)) 105 #[.int .i64 round, .int .i64 who, .int .i64 g]).alloc (.cells #[.int .i64 who, .int .i64 round] 106)
    rw [e1] at this
    exact this
  · have := Blk.new ((w.alloc (.cells #[.int .i64 kind, .int .i64 who, .int .i64 block, .int .i64 round, .int .i64 high] 47)).alloc (.cells #[.int .i64 round, .int .i64 who, .int .i64 g] 105)) 106 #[.int .i64 who, .int .i64 round]
    rw [e2] at this
    exact this
theorem GaveAt.again {m : Nat} {L : List (Int × Int)} {x : Int × Int} (h : GaveAt w m (x :: L) K) (hx : x ∈ L) : GaveAt w m L K := by
  obtain ⟨n, D, hn, hown, hD⟩ := h
  refine ⟨n, D, hn, hown, fun y kl hk => ?_⟩
  obtain ⟨c, h1, h2, h3⟩ := hD y kl hk
  refine ⟨c, h1, h2, h3.trans ?_⟩
  rw [List.mem_cons]
  exact ⟨fun h => h.elim (fun e => e ▸ hx) id, .inr⟩

def gaveSt (s : St) (i : Nat) (round : Int) : St := { s with gave := ((i : Int), round) :: s.gave, members := s.members.set i (max (Mo.voted s i) round, Mo.knows s i), late := (round, (i : Int), Mo.knows s i) :: s.late }
def TruePost (w : World) (B : Nat) (c : Cfg) (s : St) (K : Nat) (o : MOwn) (i : Nat) (round : Int) (e : Ending) (w' : World) : Prop :=
  if ((i : Int), round) ∈ s.gave then Did w B c s (K + 2) o 6 e w' else Did w B c (gaveSt s i round) (K + 2) o 0 e w'
theorem true_again {i : Nat} {round : Int} (hin : ((i : Int), round) ∈ s.gave) (hM : MAt w' B c { s with gave := ((i : Int), round) :: s.gave } (K + 1) o) (hT : Turned o o w w') : TruePost w B c s K o i round (.returned (.int .i64 6)) w' := by
  unfold TruePost
  rw [if_pos hin]
  have h1 : MAt w' B c s (K + 1) o := ⟨hM.blk, hM.b, hM.lm, hM.gg, hM.ne, hM.ob, hM.ov, hM.om, hM.late, GaveAt.again hM.gave hin⟩
  exact ⟨o, rfl, h1.more (by omega), hT, rfl⟩

theorem true_fin {i : Nat} {round : Int} (hno : ((i : Int), round) ∉ s.gave) (hM : MAt w' B c (gaveSt s i round) (K + 1 + 1) o) (hT : Turned o o w w') : TruePost w B c s K o i round (.returned (.int .i64 0)) w' := by
  unfold TruePost
  rw [if_neg hno]
  exact ⟨o, rfl, hM, hT, rfl⟩
theorem voted_fin {W : World} {K1 i : Nat} {g : List (Int × Int)} {round z : Int} (hM : MAt W B c { s with gave := g } K1 o) (hi : i < s.members.length) (hz : z = max (Mo.voted s i) round) :
    MAt (W.setCell ⟨o.gm, i * 2, none⟩ (.int .i64 z)).drew B c { s with gave := g, members := s.members.set i (max (Mo.voted s i) round, Mo.knows s i) } K1 o ∧ Turned o o W (W.setCell ⟨o.gm, i * 2, none⟩ (.int .i64 z)).drew := by
  obtain ⟨h1, h2⟩ := hM.set_voted i hi z
  have e : Mo.knows { s with gave := g } i = Mo.knows s i := rfl
  rw [e, hz] at h1
  exact ⟨hz ▸ h1.drewN 1, h2.trans (Turned.of_below (below_drewN (Below.refl _ _) 1))⟩
theorem set_other {W : World} {K1 : Nat} {p : Addr} (hM : MAt W B c s K1 o) (v : Value) (hp : ∀ k, o.has k → k ≠ p.block) : MAt (W.setCell p v) B c s K1 o :=
  hM.keep fun k hk => Below.heap_setCell W p v k (hp k hk)
theorem Turned.set_new {W : World} {o' : MOwn} {p : Addr} (h : Turned o o' w W) (hp : w.heap.size ≤ p.block) (v : Value) : Turned o o' w (W.setCell p v) :=
  ⟨h.os, h.tape, h.output, by have := h.size; simpa using this, fun k hk hn => (Below.heap_setCell W p v k (by omega)).trans (h.block k hk hn), h.new⟩
theorem loc_set {W : World} {sb : Nat} {kind who block round high g : Int} (h : Loc W sb kind who block round high g) (z : Int) : Loc (W.setCell ⟨sb + 1, 2, none⟩ (.int .i64 z)) sb kind who block round high z := by
  refine ⟨h.say.far (by simp) _, ?_, h.arr.far (by simp) _⟩
  have := h.giv.set_ 2 (.int .i64 z)
  simpa using this

set_option maxHeartbeats 800000 in
set_option maxRecDepth 100000 in
theorem give_true (h : MAt w B c s K o) (hw : WF c s) (x : Say) (i : Nat) (hx : x.who = i) (hi : i < c.n) (hr1 : 1 ≤ x.round) (hr2 : x.round ≤ 1000) (hl : lies c i = false) (hK : K ≤ 900) :
    Calls Tryd.prog 33 #[.pointer (some ⟨o.b, 0, none⟩), sayV x] w (TruePost w B c s K o i x.round) := by
  obtain ⟨kind, who, block, round, high⟩ := x
  simp only at hx hr1 hr2
  subst hx
  have hL := Lib.hid hl
  have hi7 : i ≤ 7 := by have := hw.n7; omega
  have hM := Lib.hid ((h.alloc (.cells #[.int .i64 kind, .int .i64 i, .int .i64 block, .int .i64 round, .int .i64 high] 47)).alloc (.cells #[.int .i64 round, .int .i64 i, .int .i64 high] 105))
  have hM1 := Lib.hid (((h.alloc (.cells #[.int .i64 kind, .int .i64 i, .int .i64 block, .int .i64 round, .int .i64 high] 47)).alloc (.cells #[.int .i64 round, .int .i64 i, .int .i64 high] 105)).alloc (.cells #[.int .i64 i, .int .i64 round] 106))
  have HB := Lib.hid ((((Below.refl w.heap.size w).alloc (Nat.le_refl _) (.cells #[.int .i64 kind, .int .i64 i, .int .i64 block, .int .i64 round, .int .i64 high] 47)).alloc (by simp) (.cells #[.int .i64 round, .int .i64 i, .int .i64 high] 105)).alloc (by simp; omega) (.cells #[.int .i64 i, .int .i64 round] 106))
  have HL : Hid (Loc (((w.alloc (.cells #[.int .i64 kind, .int .i64 i, .int .i64 block, .int .i64 round, .int .i64 high] 47)).alloc (.cells #[.int .i64 round, .int .i64 i, .int .i64 high] 105)).alloc (.cells #[.int .i64 i, .int .i64 round] 106)) w.heap.size kind i block round high high) := Lib.hid (loc_new _ _ _ _ _ _ _)
  have hlt := Lib.hid (fun k (hk : o.has k) => (h.has_lt hk).1)
  clear hl
  unfold sayV
  go_enter Tryd.func33, Tryd.ntmps33
  go_upto_region 14 with (go_at_call 44; refine (lies_is hM.out hw (by omega) hL.out).mono ?_; rintro e w' ⟨rfl, rfl⟩)
  have hsz : o.gg < w.heap.size ∧ o.gm < w.heap.size ∧ o.lm < w.heap.size := ⟨(h.has_lt (.inr (.inr (.inr (.inr (.inr rfl)))))).1, (h.has_lt (.inr (.inr (.inr (.inl rfl))))).1, (h.has_lt (.inr (.inr (.inr (.inr (.inl rfl)))))).1⟩
  generalize ((w.alloc (.cells #[.int .i64 kind, .int .i64 i, .int .i64 block, .int .i64 round, .int .i64 high] 47)).alloc (.cells #[.int .i64 round, .int .i64 i, .int .i64 high] 105)).alloc (.cells #[.int .i64 i, .int .i64 round] 106) = w1 at hM1 HB HL ⊢
  clear hM
  have c7 := hM1.out.c7
  have a0 := HL.out.arr.cell 0
  have a1 := HL.out.arr.cell 1
  simp at a0 a1
  obtain ⟨kl, hkl⟩ := av_key i round (WalkArith.wf_i64 (by omega)) (WalkArith.wf_i64 (by omega))
  obtain ⟨n, v0, st, W1, W2, hinc, hn1, hn2, hg2, hgr1, hgr2⟩ := gave_inc (w := w1.drew) (hM1.out.drewN 1).gave ((i : Int), round) hkl (by omega)
  have l0 : (Instr.lookup 68 (.map (some o.gg)) (.agg #[.int .i64 i, .int .i64 round]) false).run Tryd.prog w1.drew = .ok (.int .i64 n) w1.drew := hinc.look
  have l1 : (Instr.mapEntry 68 (.map (some o.gg)) (.agg #[.int .i64 i, .int .i64 round])).run Tryd.prog w1.drew = .ok (.tuple #[v0, .int .i64 st]) W1 := hinc.entry
  have l2 : (Instr.lookup 68 (.map (some o.gg)) (.agg #[.int .i64 i, .int .i64 round]) false).run Tryd.prog W1 = .ok (.int .i64 n) W1 := hinc.look1
  have l3 : (Instr.entryStore 68 (.map (some o.gg)) (.int .i64 st) (.int .i64 ((n : Int) + 1))).run Tryd.prog W1 = .ok () W2 := hinc.store
  have HN := Lib.hid hn2
  have HI := Lib.hid hinc
  have hM2 := Lib.hid ((hM1.out.drewN 1).set_gave hg2 hgr2)
  have HL2 := Lib.hid (HL.out.grown (w' := W2) (m := o.gg) ⟨hgr2.os, hgr2.tape, hgr2.output, hgr2.size, hgr2.block⟩ hsz.1)
  clear hn2 hinc hg2 hgr1 hgr2 hM1
  go_region
  clear l0 l1 l2 l3 a0 a1 c7
  have hm2 := hM2.out.1
  have c7 := hm2.c7
  have a0 := HL2.out.arr.cell 0
  have a1 := HL2.out.arr.cell 1
  simp at a0 a1
  have l4 : (Instr.lookup 68 (.map (some o.gg)) (.agg #[.int .i64 i, .int .i64 round]) false).run Tryd.prog W2.drew = .ok (.int .i64 ((n : Int) + 1)) W2.drew := HI.out.look2
  have HT2 := Lib.hid ((Turned.of_below (o := o) HB.out).trans ((Turned.of_below (below_drewN (Below.refl _ _) 1)).trans hM2.out.2))
  have HM2 := Lib.hid hm2
  clear hm2 hM2 HI
  go_upto_region 15 with (fail)
  by_cases hn0 : 1 ≤ n
  · go_region
    all_goals go_wp2_with fail
    all_goals go_ret
    all_goals exact true_again ((HN.out).1 (by omega)) (HM2.out.drewN 1) (HT2.out.trans (Turned.of_below (below_drewN (Below.refl _ _) 1)))
  · have hno := Lib.hid (show ((i : Int), round) ∉ s.gave from fun hin => hn0 ((HN.out).2 hin))
    go_region
    clear l4 a0 a1 c7
    have HM3 := Lib.hid (HM2.out.drewN 1)
    have HT3 := Lib.hid (HT2.out.trans (Turned.of_below (below_drewN (Below.refl _ W2) 1)))
    have HL3 : Hid (Loc (W2.drewN 1) w.heap.size kind i block round high high) := Lib.hid (HL2.out.keep rfl rfl rfl)
    change Exit.then _ _ _ _ (W2.drewN 1)
    generalize W2.drewN 1 = W3 at HM3 HT3 HL3 ⊢
    have hil : i < s.members.length := by rw [hw.mlen]; exact hi
    have c5 := HM3.out.c5
    have s1 := HL3.out.say.cell 1
    simp only at c5
    simp at s1
    go_upto_region 17 with (fail)
    go_quiet (fail)
    have HM4 := Lib.hid (HM3.out.drewN nq)
    have HT4 := Lib.hid (HT3.out.trans (Turned.of_below (below_drewN (Below.refl _ W3) nq)))
    have HL4 : Hid (Loc (W3.drewN nq) w.heap.size kind i block round high high) := Lib.hid (HL3.out.keep rfl rfl rfl)
    clear c5 s1 HM3 HT3 HL3
    generalize W3.drewN nq = W4 at HM4 HT4 HL4 ⊢
    have m0 := HM4.out.voted hil
    have fm := HM4.out.om.frozenAt (i * 2)
    have em : Mo.voted { s with gave := ((i : Int), round) :: s.gave } i = Mo.voted s i := rfl
    rw [em] at m0
    clear em
    have s3 := HL4.out.say.cell 3
    simp at s3
    go_upto_region 18 with (fail)
    go_cut [9] (fun v wr => v = .pointer (some ⟨o.gm, i * 2, none⟩) ∧ MAt wr B c { s with gave := ((i : Int), round) :: s.gave, members := s.members.set i (max (Mo.voted s i) round, Mo.knows s i) } (K + 1) o ∧ Turned o o w wr ∧ Loc wr w.heap.size kind i block round high high)
    case first =>
      go_region
      all_goals go_wp2_with fail
      all_goals go_meet
      · have hle : Mo.voted s i < round := by assumption
        have hf := voted_fin HM4.out hil (round := round) (z := round) (by omega)
        exact ⟨rfl, hf.1, HT4.out.trans hf.2, (HL4.out.grown (setCell_grown _ _ _) hsz.2.1).keep rfl rfl rfl⟩
      · have hle : round ≤ Mo.voted s i := by assumption
        have hf := voted_fin HM4.out hil (round := round) (z := Mo.voted s i) (by omega)
        exact ⟨rfl, hf.1, HT4.out.trans hf.2, (HL4.out.grown (setCell_grown _ _ _) hsz.2.1).keep rfl rfl rfl⟩
    case rest =>
      obtain ⟨rfl, hM5, hT5, hL5⟩ := hcut
      have m1 := hM5.knows (i := i) (by simpa using hil)
      have em : Mo.knows { s with gave := ((i : Int), round) :: s.gave, members := s.members.set i (max (Mo.voted s i) round, Mo.knows s i) } i = Mo.knows s i := by simp [Mo.knows, hil]
      rw [em] at m1
      have gf := hL5.giv.frozen 2
      have gc := hL5.giv.cell 2
      simp at gc
      have hM6 := set_other hM5 (p := ⟨w.heap.size + 1, 2, none⟩) (.int .i64 (Mo.knows s i)) (fun k hk e => by have := hlt.out k hk; simp at e; omega)
      have hL6 := loc_set hL5 (Mo.knows s i)
      have HM6 := Lib.hid hM6
      have HT6 := Lib.hid (hT5.set_new (p := ⟨w.heap.size + 1, 2, none⟩) (by simp) (.int .i64 (Mo.knows s i)))
      have HL6 := Lib.hid hL6
      clear hM5 hT5 hL5 hM6 hL6 m0 fm s3 em
      go_upto_region 20 with (fail)
      generalize wc.setCell ⟨w.heap.size + 1, 2, none⟩ (.int .i64 (Mo.knows s i)) = W6 at HM6 HT6 HL6 ⊢
      clear gf gc m1
      have c6 := HM6.out.c6
      have g0 := HL6.out.giv.cell 0
      have g1 := HL6.out.giv.cell 1
      have g2 := HL6.out.giv.cell 2
      simp at g0 g1 g2
      have hkb := hw.knows i hi
      obtain ⟨kl2, hkl2⟩ := gv_key round i (Mo.knows s i) (WalkArith.wf_i64 (by omega)) (WalkArith.wf_i64 (by omega)) (WalkArith.wf_i64 (by omega))
      obtain ⟨W7, hput, hl7, hg7⟩ := late_put (w := W6.drew) (HM6.out.drewN 1).late (round, (i : Int), Mo.knows s i) hkl2 (by omega)
      have hput' : (Instr.mapUpdate 67 (.map (some o.lm)) (.agg #[.int .i64 round, .int .i64 i, .int .i64 (Mo.knows s i)]) (.int .i64 1)).run Tryd.prog W6.drew = .ok () W7 := hput
      clear hput
      have hfin := Lib.hid ((HM6.out.drewN 1).set_late hl7 hg7)
      clear hl7 hg7
      go_region
      all_goals go_wp2_with fail
      all_goals go_ret
      all_goals exact true_fin hno.out hfin.out.1 (HT6.out.trans ((Turned.of_below (below_drewN (Below.refl _ _) 1)).trans hfin.out.2))

/-- all that 'giveUp' does -/
theorem giveUp_at (h : MAt w B c s K o) (hw : WF c s) (x : Say) (i : Nat) (hx : x.who = i) (hi : i < c.n) (hK : K ≤ 900) :
    Calls Tryd.prog 33 #[.pointer (some ⟨o.b, 0, none⟩), sayV x] w (Did w B c (giveUp c s x).1 (K + 2) o (giveUp c s x).2) := by
  by_cases hr : x.round < 1 ∨ 1000 < x.round
  · have he : giveUp c s x = (s, 2) := by unfold giveUp; rw [if_pos hr]
    rw [he]
    exact (give_out x hr o.b).mono fun e w' ⟨h1, h2⟩ => ⟨o, h1, (h.below h2).more (by omega), Turned.of_below h2, rfl⟩
  · have hw1 : x.who.toNat = i := by omega
    cases hl : lies c i with
    | true =>
      refine (give_liar h hw x i hx hi (by omega) (by omega) hl (by omega)).mono fun e w' hp => ?_
      unfold LiarPost at hp
      unfold giveUp
      rw [if_neg hr, hw1, if_pos hl]
      change Did w B c (if (List.range s.blocks.length).any (named c s x.high) = true then (_, _) else (_, _)).1 _ _ (if (List.range s.blocks.length).any (named c s x.high) = true then (_, _) else (_, _)).2 _ _
      split at hp <;> rename_i hn
      · rw [if_pos hn]
        obtain ⟨o', h1, h2, h3, h4⟩ := hp
        exact ⟨o', h1, h2.more (by omega), h3, h4⟩
      · rw [if_neg hn]
        obtain ⟨o', h1, h2, h3, h4⟩ := hp
        exact ⟨o', h1, h2.more (by omega), h3, h4⟩
    | false =>
      refine (give_true h hw x i hx hi (by omega) (by omega) hl hK).mono fun e w' hp => ?_
      unfold TruePost at hp
      unfold giveUp
      rw [if_neg hr, hw1, if_neg (by rw [hl]; simp), hx]
      split at hp <;> rename_i hn
      · rw [if_pos hn]
        exact hp
      · rw [if_neg hn]
        exact hp
end
end Go.Proofs.YtkcekjpohpenkaaDoor
