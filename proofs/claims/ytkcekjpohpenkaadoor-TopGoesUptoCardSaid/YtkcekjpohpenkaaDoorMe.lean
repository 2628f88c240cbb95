import Derived.Test.YtkcekjpohpenkaaDoorMd
set_option linter.unusedVariables false
set_option linter.unusedSimpArgs false
namespace Go.Proofs.YtkcekjpohpenkaaDoor
open Go.RowKit Mo
open Go.Maps (Keyed)

theorem below_of_drewN {w w' : World} {n : Nat} (h : Below (w.drewN n).heap.size (w.drewN n) w') : Below w.heap.size w w' := ⟨h.os, h.tape, h.output, h.size, h.block⟩
theorem pow_n {c : Cfg} {s : St} (h : WF c s) : 2 ^ c.n ≤ 128 := by
  have := Nat.pow_le_pow_right (n := 2) (by omega) h.n7
  simpa using this

section
variable {w : World} {B K : Nat} {c : Cfg} {s : St} {o : MOwn}

theorem lies_at (h : MAt w B c s K o) (hw : WF c s) (i : Nat) (hi : i < 32) :
    Calls Tryd.prog 44 #[.pointer (some ⟨o.b, 0, none⟩), .int .i64 i] w fun e w' => e = .returned (.bool (lies c i)) ∧ w = w' :=
  lies_any w o.b c.liars i h.c2 hi (by have := pow_n hw; have := hw.liars; omega)

theorem block_at (h : MAt w B c s K o) (i : Int) :
    Calls Tryd.prog 43 #[.pointer (some ⟨o.b, 0, none⟩), .int .i64 i] w fun e w' => e = .returned (.bool (isBlock s i)) ∧ w = w' :=
  block_any w o.b o.gb s.blocks.length o.cb i h.c3

theorem certified_at (h : MAt w B c s K o) (hw : WF c s) (i : Nat) (hi : i < s.blocks.length) :
    Calls Tryd.prog 18 #[.pointer (some ⟨o.b, 0, none⟩), .int .i64 i] w fun e w' => e = .returned (.bool (certified c s i)) ∧ ∃ n, w' = w.drewN n := by
  by_cases h0 : i = 0
  · subst h0
    exact certified_zero w o.b
  · have hv := hw.votes i
    have hn := pow_n hw
    refine (certified_pos w o.b o.gv s.votes.length o.cv c.need i (s.votes.getD i 0) (by omega) (by rw [hw.vlen]; exact hi) h.c4 h.c1 (h.vote (by rw [hw.vlen]; exact hi)) (by omega)).mono ?_
    rintro e w' ⟨rfl, hd⟩
    exact ⟨by simp [certified, h0], hd⟩

/-- the mask's bits are those who gave the round up -/
theorem pop_mask {D : DataW Unit} {L : List (Int × Int × Int)} {r q : Int} {m : Nat} (hm : Mask D (fun _ => false) r q m) (hL : s.late = L) (hw : WF c s)
    (hD : ∀ v kl, keyOf Tryd.prog 105 v = some kl → (Maps.has D kl = true ↔ ∃ x ∈ L, v = gv x.1 x.2.1 x.2.2)) : pop m = (List.range 32).countP (gaveUp s r q) := by
  subst hL
  unfold pop
  refine List.countP_congr fun j hj => ?_
  rw [hm.bit j]
  constructor
  · rintro ⟨x, kl, hk, hh, _, h1, h2, h3⟩
    obtain ⟨y, hy, e⟩ := (hD _ _ hk).1 hh
    have := gv_inj e
    subst this
    refine List.any_eq_true.2 ⟨x, hy, ?_⟩
    simp [h1, h2, h3]
  · intro hg
    obtain ⟨x, hx, hh⟩ := List.any_eq_true.1 hg
    simp only [Bool.and_eq_true, decide_eq_true_eq] at hh
    obtain ⟨l1, l2, l3, l4, l5, l6⟩ := hw.late x hx
    have hn := hw.n7
    obtain ⟨kl, hk⟩ := gv_key x.1 x.2.1 x.2.2 (WalkArith.wf_i64 (by omega)) (WalkArith.wf_i64 (by omega)) (WalkArith.wf_i64 (by omega))
    exact ⟨x, kl, hk, (hD _ _ hk).2 ⟨x, hx, rfl⟩, rfl, hh.1.1, hh.1.2, hh.2⟩

theorem passed_at (h : MAt w B c s K o) (hw : WF c s) (r q : Int) :
    Calls Tryd.prog 50 #[.pointer (some ⟨o.b, 0, none⟩), .int .i64 r, .int .i64 q] w fun e w' => e = .returned (.bool (passed c s r q)) ∧ Below w.heap.size w w' := by
  refine (passed_any w o.b o.lm c.need K s.late r q h.c6 h.c1 h.late fun x hx => ?_).mono ?_
  · have := hw.late x hx
    have := hw.n7
    omega
  · rintro e w' ⟨⟨m, D, hm, hD, rfl⟩, hb⟩
    refine ⟨?_, hb⟩
    rw [pop_mask hm rfl hw hD]
    rfl

theorem agrees_at (h : MAt w B c s K o) (hw : WF c s) (i b : Nat) (hi : i < c.n) (hb0 : 0 < b) (hb : b < s.blocks.length) :
    Calls Tryd.prog 45 #[.pointer (some ⟨o.b, 0, none⟩), .int .i64 i, .int .i64 b] w fun e w' => e = .returned (.bool (agrees c s i b)) ∧ Below w.heap.size w w' := by
  obtain ⟨p0, p1, p2⟩ := hw.par b hb0 hb
  obtain ⟨p, hp⟩ := Int.eq_ofNat_of_zero_le p0
  have hpl : p < s.blocks.length := by omega
  have hil : i < s.members.length := by rw [hw.mlen]; exact hi
  have e0 : w.cell? ⟨o.gb, b * 2, none⟩ = some (.int .i64 (p : Int)) := by rw [h.par hb, hp]
  have ept : (par s b).toNat = p := by omega
  by_cases h1 : rnd s b ≤ voted s i
  · refine (agrees_no w o.b o.gb s.blocks.length o.cb o.gm s.members.length o.cm i b p _ _ _ hb hpl hil h.c3 h.c5 e0 (h.rnd hb) (h.rnd hpl) (h.voted hil) h1).mono ?_
    rintro e w' ⟨rfl, n, rfl⟩
    exact ⟨by simp [agrees]; omega, below_drewN (Below.refl _ _) n⟩
  · have hr := hw.rnd b hb
    by_cases h2 : rnd s p = rnd s b - 1
    · refine (agrees_next w o.b o.gb s.blocks.length o.cb o.gm s.members.length o.cm i b p _ _ _ hb hpl hil h.c3 h.c5 e0 (h.rnd hb) (h.rnd hpl) (h.voted hil) (by omega) hr.1 hr.2 (by simp [h2])).mono ?_
      rintro e w' ⟨rfl, n, rfl⟩
      refine ⟨?_, below_drewN (Below.refl _ _) n⟩
      have : voted s i < rnd s b := by omega
      simp [agrees, ept, h2, this]
    · refine (agrees_passed w o.b o.gb s.blocks.length o.cb o.gm s.members.length o.cm i b p _ _ _ (passed c s (rnd s b - 1) (rnd s p)) hb hpl hil h.c3 h.c5 e0 (h.rnd hb) (h.rnd hpl) (h.voted hil) (by omega) hr.1 hr.2 (by simp [h2]) fun n => ?_).mono ?_
      · refine (passed_at (h.below (below_drewN (Below.refl _ _) n)) hw _ _).mono ?_
        rintro e w' ⟨rfl, hbb⟩
        exact ⟨rfl, below_of_drewN hbb⟩
      · rintro e w' ⟨rfl, hbb⟩
        refine ⟨?_, hbb⟩
        have : voted s i < rnd s b := by omega
        simp [agrees, ept, h2, this]
end
end Go.Proofs.YtkcekjpohpenkaaDoor
