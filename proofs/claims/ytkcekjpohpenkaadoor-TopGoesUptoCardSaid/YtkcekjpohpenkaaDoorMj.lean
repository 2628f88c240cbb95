import Derived.Test.YtkcekjpohpenkaaDoorMi
set_option linter.unusedVariables false
set_option linter.unusedSimpArgs false
set_option maxRecDepth 100000
namespace Go.Proofs.YtkcekjpohpenkaaDoor
open Go.RowKit Mo
open Go.Maps (Keyed)
section
variable {w : World} {B K : Nat} {c : Cfg} {s : St} {o : MOwn}

set_option maxHeartbeats 400000 in
theorem learn_noblock (h : MAt w B c s K o) (i : Nat) (b : Int) (hb : isBlock s b = false) :
    Calls Tryd.prog 34 #[.pointer (some ⟨o.b, 0, none⟩), .int .i64 i, .int .i64 b] w (Still w 2) := by
  have hB := Lib.hid hb
  clear hb
  go_enter Tryd.func34, Tryd.ntmps34
  go_wp2_with (go_at_call 43; refine (block_is h hB.out).mono ?_; rintro e w' ⟨rfl, rfl⟩)
  go_ret
  exact ⟨rfl, Below.refl _ _⟩

set_option maxHeartbeats 400000 in
theorem learn_uncert (h : MAt w B c s K o) (hw : WF c s) (i k : Nat) (hk : k < s.blocks.length) (hc : certified c s k = false) :
    Calls Tryd.prog 34 #[.pointer (some ⟨o.b, 0, none⟩), .int .i64 i, .int .i64 k] w (Still w 6) := by
  have hB := Lib.hid (show isBlock s k = true by simp [isBlock, hk])
  have hC := Lib.hid hc
  clear hc
  go_enter Tryd.func34, Tryd.ntmps34
  go_wp2_with (first | (go_at_call 43; refine (block_is h hB.out).mono ?_; rintro e w' ⟨rfl, rfl⟩) | (go_at_call 18; refine (cert_is h hw hk hC.out).mono ?_; rintro e w' ⟨rfl, nq, rfl⟩))
  go_ret
  exact ⟨rfl, below_drewN (Below.refl _ _) _⟩

set_option maxHeartbeats 400000 in
theorem learn_liar (h : MAt w B c s K o) (hw : WF c s) (i k : Nat) (hi : i < c.n) (hk : k < s.blocks.length) (hc : certified c s k = true) (hl : lies c i = true) :
    Calls Tryd.prog 34 #[.pointer (some ⟨o.b, 0, none⟩), .int .i64 i, .int .i64 k] w (Still w 6) := by
  have hB := Lib.hid (show isBlock s k = true by simp [isBlock, hk])
  have hC := Lib.hid hc
  have hL := Lib.hid hl
  have hi7 : i ≤ 7 := by have := hw.n7; omega
  clear hc hl
  go_enter Tryd.func34, Tryd.ntmps34
  go_wp2_with (first | (go_at_call 43; refine (block_is h hB.out).mono ?_; rintro e w' ⟨rfl, rfl⟩) | (go_at_call 18; refine (cert_is h hw hk hC.out).mono ?_; rintro e w' ⟨rfl, nq, rfl⟩) | (go_at_call 44; refine (lies_is (h.drewN _) hw (by omega) hL.out).mono ?_; rintro e w' ⟨rfl, rfl⟩))
  go_ret
  exact ⟨rfl, below_drewN (Below.refl _ _) _⟩

def learnSt (s : St) (i k : Nat) : St := { s with members := s.members.set i (Mo.voted s i, max (Mo.knows s i) (Mo.rnd s k)) }

set_option maxHeartbeats 400000 in
theorem learn_yes (h : MAt w B c s K o) (hw : WF c s) (i k : Nat) (hi : i < c.n) (hk : k < s.blocks.length) (hc : certified c s k = true) (hl : lies c i = false) :
    Calls Tryd.prog 34 #[.pointer (some ⟨o.b, 0, none⟩), .int .i64 i, .int .i64 k] w (Did w B c (learnSt s i k) K o 0) := by
  have hB := Lib.hid (show isBlock s k = true by simp [isBlock, hk])
  have hil : i < s.members.length := by rw [hw.mlen]; exact hi
  have hC := Lib.hid hc
  have hL := Lib.hid hl
  have hi7 : i ≤ 7 := by have := hw.n7; omega
  have c3 := h.c3
  have c5 := h.c5
  have r1 := h.rnd hk
  have m1 := h.knows hil
  have fm := h.om.frozenAt (i * 2 + 1)
  have hS := Lib.hid (fun z => h.set_knows i hil z)
  clear hc hl
  go_enter Tryd.func34, Tryd.ntmps34
  go_wp2_with (first | (go_at_call 43; refine (block_is h hB.out).mono ?_; rintro e w' ⟨rfl, rfl⟩) | (go_at_call 18; refine (cert_is h hw hk hC.out).mono ?_; rintro e w' ⟨rfl, nq, rfl⟩) | (go_at_call 44; refine (lies_is (h.drewN _) hw (by omega) hL.out).mono ?_; rintro e w' ⟨rfl, rfl⟩))
  go_region
  all_goals go_wp2_with fail
  all_goals go_ret
  · have hle : Mo.knows s i < Mo.rnd s k := by assumption
    have hfin := hS.out (Mo.rnd s k)
    have e : learnSt s i k = { s with members := s.members.set i (Mo.voted s i, Mo.rnd s k) } := by unfold learnSt; rw [Int.max_eq_right (by omega)]
    exact ⟨o, rfl, e ▸ hfin.1.drewN _, hfin.2.trans (Turned.of_below (below_drewN (Below.refl _ _) _)), rfl⟩
  · have hle : Mo.rnd s k ≤ Mo.knows s i := by assumption
    have hfin := hS.out (Mo.knows s i)
    have e : learnSt s i k = { s with members := s.members.set i (Mo.voted s i, Mo.knows s i) } := by unfold learnSt; rw [Int.max_eq_left (by omega)]
    exact ⟨o, rfl, e ▸ hfin.1.drewN _, hfin.2.trans (Turned.of_below (below_drewN (Below.refl _ _) _)), rfl⟩

theorem learn_at (h : MAt w B c s K o) (hw : WF c s) (i : Nat) (hi : i < c.n) (b : Int) : Calls Tryd.prog 34 #[.pointer (some ⟨o.b, 0, none⟩), .int .i64 i, .int .i64 b] w (Did w B c (learn c s i b).1 K o (learn c s i b).2) := by
  have still : ∀ {code : Int}, Calls Tryd.prog 34 #[.pointer (some ⟨o.b, 0, none⟩), .int .i64 i, .int .i64 b] w (Still w code) → learn c s i b = (s, code) → Calls Tryd.prog 34 #[.pointer (some ⟨o.b, 0, none⟩), .int .i64 i, .int .i64 b] w (Did w B c (learn c s i b).1 K o (learn c s i b).2) := by
    intro code hc he
    rw [he]
    exact hc.mono fun e w' ⟨h1, h2⟩ => ⟨o, h1, h.below h2, Turned.of_below h2, rfl⟩
  by_cases hb : isBlock s b = false
  · exact still (learn_noblock h i b hb) (by simp [learn, hb])
  · have hb' : isBlock s b = true := by simpa using hb
    simp only [isBlock, Bool.and_eq_true, decide_eq_true_eq] at hb'
    obtain ⟨k, rfl⟩ := Int.eq_ofNat_of_zero_le hb'.1
    have hk : k < s.blocks.length := by have := hb'.2; omega
    cases hc : certified c s k with
    | false => exact still (learn_uncert h hw i k hk hc) (by unfold learn; rw [if_neg hb, Int.toNat_natCast, if_pos (.inl hc)])
    | true =>
      cases hl : lies c i with
      | true => exact still (learn_liar h hw i k hi hk hc hl) (by unfold learn; rw [if_neg hb, Int.toNat_natCast, if_pos (.inr hl)])
      | false =>
        have he : learn c s i k = (learnSt s i k, 0) := by
          unfold learn
          rw [if_neg hb, Int.toNat_natCast, if_neg (by rw [hc, hl]; simp)]
          rfl
        rw [he]
        exact learn_yes h hw i k hi hk hc hl
end
end Go.Proofs.YtkcekjpohpenkaaDoor
