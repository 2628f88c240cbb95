import Derived.Test.YtkcekjpohpenkaaDoorMn
set_option linter.unusedVariables false
set_option linter.unusedSimpArgs false
set_option maxRecDepth 100000
namespace Go.Proofs.YtkcekjpohpenkaaDoor
open Go.RowKit Mo
open Go.Maps (Keyed)
section
variable {w w' : World} {B K : Nat} {c : Cfg} {s : St} {o : MOwn}

/-- a callee that was entered from a world that is the old one but for new blocks and draws -/
theorem Did.of_below {w1 : World} {code : Int} {e : Ending} (hb : Below w.heap.size w w1) (h : Did w1 B c s K o code e w') : Did w B c s K o code e w' := by
  obtain ⟨o', h1, h2, h3, h4⟩ := h
  exact ⟨o', h1, h2, (Turned.of_below hb).trans h3, h4⟩
theorem Did.value {code : Int} {e : Ending} (h : Did w B c s K o code e w') : e = .returned (.int .i64 code) := h.choose_spec.1

set_option maxHeartbeats 400000 in
theorem step_kind (x : Say) (b : Nat) (hk : x.kind < 1 ∨ 4 < x.kind) :
    Calls Tryd.prog 17 #[.pointer (some ⟨b, 0, none⟩), sayV x] w (Still w 4) := by
  obtain ⟨kind, who, block, round, high⟩ := x
  simp only at hk
  unfold sayV
  by_cases h1 : kind < 1
  · go_enter Tryd.func17, Tryd.ntmps17
    go_wp2_with fail
    go_ret
    exact ⟨rfl, (Below.refl _ _).alloc (Nat.le_refl _) _⟩
  · have h2 : 4 < kind := by omega
    go_enter Tryd.func17, Tryd.ntmps17
    go_wp2_with fail
    go_ret
    exact ⟨rfl, (Below.refl _ _).alloc (Nat.le_refl _) _⟩

set_option maxHeartbeats 400000 in
theorem step_block (h : MAt w B c s K o) (hw : WF c s) (x : Say) (hk : x.kind = 1) :
    Calls Tryd.prog 17 #[.pointer (some ⟨o.b, 0, none⟩), sayV x] w (Did w B c (behind c s x).1 K o (behind c s x).2) := by
  obtain ⟨kind, who, block, round, high⟩ := x
  simp only at hk
  subst hk
  have hc := Lib.hid (behind_at (h.alloc (.cells #[.int .i64 1, .int .i64 who, .int .i64 block, .int .i64 round, .int .i64 high] 47)) hw ⟨1, who, block, round, high⟩)
  have HB := Lib.hid ((Below.refl w.heap.size w).alloc (Nat.le_refl _) (.cells #[.int .i64 1, .int .i64 who, .int .i64 block, .int .i64 round, .int .i64 high] 47))
  clear h
  unfold sayV at hc ⊢
  go_enter Tryd.func17, Tryd.ntmps17
  go_wp2_with (go_at_call 31; refine (hc.out).mono ?_; intro e w' hd; have hv := hd.value; subst hv; have HD := Lib.hid hd; clear hd)
  go_ret
  exact HD.out.of_below HB.out

set_option maxHeartbeats 400000 in
theorem step_who (h : MAt w B c s K o) (x : Say) (hk1 : 2 ≤ x.kind) (hk2 : x.kind ≤ 4) (hwho : x.who < 0 ∨ (c.n : Int) ≤ x.who) :
    Calls Tryd.prog 17 #[.pointer (some ⟨o.b, 0, none⟩), sayV x] w (Still w 2) := by
  obtain ⟨kind, who, block, round, high⟩ := x
  simp only at hk1 hk2 hwho
  have hk : (kind == 1) = false := by simp; omega
  have c0 := h.c0
  have lb := h.blk.lt
  clear h
  unfold sayV
  by_cases h1 : who < 0
  · go_enter Tryd.func17, Tryd.ntmps17
    go_wp2_with fail
    go_quiet (fail)
    go_wp2_with fail
    go_ret
    exact ⟨rfl, below_drewN ((Below.refl _ _).alloc (Nat.le_refl _) _) nq⟩
  · have h1' : decide (who < 0) = false := by simpa using h1
    have h2 : (c.n : Int) ≤ who := by omega
    go_enter Tryd.func17, Tryd.ntmps17
    go_wp2_with fail
    go_quiet (fail)
    go_wp2_with fail
    go_ret
    exact ⟨rfl, below_drewN ((Below.refl _ _).alloc (Nat.le_refl _) _) nq⟩

set_option maxHeartbeats 400000 in
theorem step_vote (h : MAt w B c s K o) (hw : WF c s) (x : Say) (i : Nat) (hk : x.kind = 2) (hx : x.who = i) (hi : i < c.n) :
    Calls Tryd.prog 17 #[.pointer (some ⟨o.b, 0, none⟩), sayV x] w (Did w B c (vote c s i x.block).1 K o (vote c s i x.block).2) := by
  obtain ⟨kind, who, block, round, high⟩ := x
  simp only at hk hx
  subst hk hx
  have c0 := h.c0
  have lb := h.blk.lt
  have h1 : decide ((i : Int) < 0) = false := by simp
  have hi' : ¬ (c.n : Int) ≤ (i : Int) := by omega
  have hc := Lib.hid (fun n => vote_at ((h.alloc (.cells #[.int .i64 2, .int .i64 i, .int .i64 block, .int .i64 round, .int .i64 high] 47)).drewN n) hw i hi block)
  have HB := Lib.hid (fun n => below_drewN ((Below.refl w.heap.size w).alloc (Nat.le_refl _) (.cells #[.int .i64 2, .int .i64 i, .int .i64 block, .int .i64 round, .int .i64 high] 47)) n)
  clear h
  unfold sayV
  go_enter Tryd.func17, Tryd.ntmps17
  go_wp2_with fail
  go_quiet (fail)
  go_wp2_with (go_at_call 32; refine (hc.out _).mono ?_; intro e w' hd; have hv := hd.value; subst hv; have HD := Lib.hid hd; clear hd)
  go_ret
  exact HD.out.of_below (HB.out _)

set_option maxHeartbeats 400000 in
theorem step_late (h : MAt w B c s K o) (hw : WF c s) (x : Say) (i : Nat) (hk : x.kind = 3) (hx : x.who = i) (hi : i < c.n) (hK : K ≤ 900) :
    Calls Tryd.prog 17 #[.pointer (some ⟨o.b, 0, none⟩), sayV x] w (Did w B c (giveUp c s x).1 (K + 2) o (giveUp c s x).2) := by
  obtain ⟨kind, who, block, round, high⟩ := x
  simp only at hk hx
  subst hk hx
  have c0 := h.c0
  have lb := h.blk.lt
  have h1 : decide ((i : Int) < 0) = false := by simp
  have hi' : ¬ (c.n : Int) ≤ (i : Int) := by omega
  have hc := Lib.hid (fun n => giveUp_at ((h.alloc (.cells #[.int .i64 3, .int .i64 i, .int .i64 block, .int .i64 round, .int .i64 high] 47)).drewN n) hw ⟨3, i, block, round, high⟩ i rfl hi hK)
  have HB := Lib.hid (fun n => below_drewN ((Below.refl w.heap.size w).alloc (Nat.le_refl _) (.cells #[.int .i64 3, .int .i64 i, .int .i64 block, .int .i64 round, .int .i64 high] 47)) n)
  clear h
  unfold sayV at hc ⊢
  go_enter Tryd.func17, Tryd.ntmps17
  go_wp2_with fail
  go_quiet (fail)
  go_wp2_with (go_at_call 33; refine (hc.out _).mono ?_; intro e w' hd; have hv := hd.value; subst hv; have HD := Lib.hid hd; clear hd)
  go_ret
  exact HD.out.of_below (HB.out _)

set_option maxHeartbeats 400000 in
theorem step_learn (h : MAt w B c s K o) (hw : WF c s) (x : Say) (i : Nat) (hk : x.kind = 4) (hx : x.who = i) (hi : i < c.n) :
    Calls Tryd.prog 17 #[.pointer (some ⟨o.b, 0, none⟩), sayV x] w (Did w B c (learn c s i x.block).1 K o (learn c s i x.block).2) := by
  obtain ⟨kind, who, block, round, high⟩ := x
  simp only at hk hx
  subst hk hx
  have c0 := h.c0
  have lb := h.blk.lt
  have h1 : decide ((i : Int) < 0) = false := by simp
  have hi' : ¬ (c.n : Int) ≤ (i : Int) := by omega
  have hc := Lib.hid (fun n => learn_at ((h.alloc (.cells #[.int .i64 4, .int .i64 i, .int .i64 block, .int .i64 round, .int .i64 high] 47)).drewN n) hw i hi block)
  have HB := Lib.hid (fun n => below_drewN ((Below.refl w.heap.size w).alloc (Nat.le_refl _) (.cells #[.int .i64 4, .int .i64 i, .int .i64 block, .int .i64 round, .int .i64 high] 47)) n)
  clear h
  unfold sayV
  go_enter Tryd.func17, Tryd.ntmps17
  go_wp2_with fail
  go_quiet (fail)
  go_wp2_with (go_at_call 34; refine (hc.out _).mono ?_; intro e w' hd; have hv := hd.value; subst hv; have HD := Lib.hid hd; clear hd)
  go_ret
  exact HD.out.of_below (HB.out _)

theorem Did.more {K' : Nat} {code : Int} {e : Ending} (h : Did w B c s K o code e w') (hK : K ≤ K') : Did w B c s K' o code e w' := by
  obtain ⟨o', h1, h2, h3, h4⟩ := h
  exact ⟨o', h1, h2.more hK, h3, h4⟩

/-- ONE STEP -/
theorem step_at (h : MAt w B c s K o) (hw : WF c s) (x : Say) (hK : K ≤ 900) : Calls Tryd.prog 17 #[.pointer (some ⟨o.b, 0, none⟩), sayV x] w (Did w B c (Mo.step c s x).1 (K + 2) o (Mo.step c s x).2) := by
  have still : ∀ {code : Int}, Calls Tryd.prog 17 #[.pointer (some ⟨o.b, 0, none⟩), sayV x] w (Still w code) → Mo.step c s x = (s, code) → Calls Tryd.prog 17 #[.pointer (some ⟨o.b, 0, none⟩), sayV x] w (Did w B c (Mo.step c s x).1 (K + 2) o (Mo.step c s x).2) := by
    intro code hc he
    rw [he]
    exact hc.mono fun e w' ⟨h1, h2⟩ => ⟨o, h1, (h.below h2).more (by omega), Turned.of_below h2, rfl⟩
  by_cases hk : x.kind < 1 ∨ 4 < x.kind
  · exact still (step_kind x o.b hk) (by unfold Mo.step; rw [if_pos hk])
  · by_cases h1 : x.kind = 1
    · have he : Mo.step c s x = behind c s x := by unfold Mo.step; rw [if_neg hk, if_pos h1]
      rw [he]
      exact (step_block h hw x h1).mono fun e w' hd => hd.more (by omega)
    · by_cases hwho : x.who < 0 ∨ (c.n : Int) ≤ x.who
      · exact still (step_who h x (by omega) (by omega) hwho) (by unfold Mo.step; rw [if_neg hk, if_neg h1, if_pos hwho])
      · obtain ⟨i, hi⟩ := Int.eq_ofNat_of_zero_le (show 0 ≤ x.who by omega)
        have hin : i < c.n := by omega
        have hi2 : x.who.toNat = i := by omega
        by_cases h2 : x.kind = 2
        · have he : Mo.step c s x = vote c s i x.block := by unfold Mo.step; rw [if_neg hk, if_neg h1, if_neg hwho, if_pos h2, hi2]
          rw [he]
          exact (step_vote h hw x i h2 hi hin).mono fun e w' hd => hd.more (by omega)
        · by_cases h3 : x.kind = 3
          · have he : Mo.step c s x = giveUp c s x := by unfold Mo.step; rw [if_neg hk, if_neg h1, if_neg hwho, if_neg h2, if_pos h3]
            rw [he]
            exact step_late h hw x i h3 hi hin hK
          · have he : Mo.step c s x = learn c s i x.block := by unfold Mo.step; rw [if_neg hk, if_neg h1, if_neg hwho, if_neg h2, if_neg h3, hi2]
            rw [he]
            exact (step_learn h hw x i (by omega) hi hin).mono fun e w' hd => hd.more (by omega)
end
end Go.Proofs.YtkcekjpohpenkaaDoor
