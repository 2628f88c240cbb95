import Derived.Test.YtkcekjpohpenkaaDoorNb
import Derived.Test.YtkcekjpohpenkaaDoorMz
/- The assembly in plain Lean: certified blocks lock. -/
set_option linter.unusedVariables false
set_option linter.unusedSimpArgs false
namespace Go.Proofs.YtkcekjpohpenkaaDoor
open Mo

theorem countP_or_and (A B : Nat → Bool) (l : List Nat) : l.countP A + l.countP B = l.countP (fun i => A i || B i) + l.countP (fun i => A i && B i) := by
  induction l with
  | nil => rfl
  | cons x r ih =>
    simp only [List.countP_cons]
    cases A x <;> cases B x <;> simp <;> omega

theorem countP_lt (n : Nat) (h : n ≤ 7) : (List.range 32).countP (fun i => decide (i < n)) = n := by
  have : n = 0 ∨ n = 1 ∨ n = 2 ∨ n = 3 ∨ n = 4 ∨ n = 5 ∨ n = 6 ∨ n = 7 := by omega
  rcases this with rfl | rfl | rfl | rfl | rfl | rfl | rfl | rfl <;> decide

theorem quorum {n f need liars : Nat} (h1 : 1 ≤ n) (h7 : n ≤ 7) (hf : f ≤ (n - 1) / 3) (hneed : need = n - f) (hfew : pop liars ≤ f) (A B : Nat → Bool) (hA : ∀ i, A i = true → i < n) (hB : ∀ i, B i = true → i < n)
    (cA : need ≤ (List.range 32).countP A) (cB : need ≤ (List.range 32).countP B) : ∃ i, A i = true ∧ B i = true ∧ liars.testBit i = false := by
  rcases Classical.em (∃ i, A i = true ∧ B i = true ∧ liars.testBit i = false) with h | h
  · exact h
  · exfalso
    have h2 : (List.range 32).countP (fun i => A i && B i) ≤ pop liars := by
      unfold pop
      refine List.countP_mono_left fun i _ hi => ?_
      simp only [Bool.and_eq_true] at hi
      cases hl : liars.testBit i with
      | true => rfl
      | false => exact absurd ⟨i, hi.1, hi.2, hl⟩ h
    have h3 : (List.range 32).countP (fun i => A i || B i) ≤ n := by
      have := List.countP_mono_left (l := List.range 32) (p := fun i => A i || B i) (q := fun i => decide (i < n)) fun i _ hi => by
        simp only [Bool.or_eq_true] at hi
        simp only [decide_eq_true_eq]
        exact hi.elim (hA i) (hB i)
      rwa [countP_lt n h7] at this
    have := countP_or_and A B (List.range 32)
    omega

/-- at most f liars of n, n more than three times f -/
structure Few (c : Cfg) (f : Nat) : Prop where
  n1 : 1 ≤ c.n
  n7 : c.n ≤ 7
  f3 : f ≤ (c.n - 1) / 3
  need : c.need = c.n - f
  few : pop c.liars ≤ f

section
variable {c : Cfg} {s : St} {f : Nat}

theorem cert_count {b : Nat} (h0 : 0 < b) (hc : certified c s b = true) : c.need ≤ (List.range 32).countP (has s b) := by
  unfold certified at hc
  simp only [Bool.or_eq_true, beq_iff_eq, decide_eq_true_eq] at hc
  rcases hc with hc | hc
  · omega
  · exact hc

theorem meet2 (hF : Few c f) (h : Inv c s) {a b : Nat} (ha : 0 < a) (hb : 0 < b) (ca : certified c s a = true) (cb : certified c s b = true) : ∃ i, has s a i = true ∧ has s b i = true ∧ lies c i = false :=
  quorum hF.n1 hF.n7 hF.f3 hF.need hF.few (has s a) (has s b) (fun i => h.vn a i) (fun i => h.vn b i) (cert_count ha ca) (cert_count hb cb)

theorem rnd_pos (h : WF c s) {b : Nat} (hb : b < s.blocks.length) : 0 < b ↔ 0 < rnd s b := by
  constructor
  · intro h0
    obtain ⟨p1, p2, p3⟩ := h.par b h0 hb
    have := h.rnd (Mo.par s b).toNat (by omega)
    omega
  · intro h0
    rcases Nat.eq_zero_or_pos b with e | e
    · subst e
      unfold Mo.rnd at h0
      rw [h.first] at h0
      simp at h0
    · exact e
theorem rnd_zero (h : WF c s) : rnd s 0 = 0 := by unfold Mo.rnd; rw [h.first]

/-- no two certified blocks have one round -/
theorem one_round (hF : Few c f) (h : Inv c s) {a b : Nat} (ha : a < s.blocks.length) (hb : b < s.blocks.length) (ca : certified c s a = true) (cb : certified c s b = true) (he : rnd s a = rnd s b) : a = b := by
  by_cases h0 : 0 < a
  · have hb0 : 0 < b := by rw [rnd_pos h.wf hb]; rw [rnd_pos h.wf ha] at h0; omega
    obtain ⟨i, h1, h2, h3⟩ := meet2 hF h h0 hb0 ca cb
    exact h.v3 i a b h3 ha hb h1 h2 he
  · have hb0 : ¬ 0 < b := by rw [rnd_pos h.wf hb]; rw [rnd_pos h.wf ha] at h0; omega
    omega

theorem par_cert (h : Inv c s) {b : Nat} (h0 : 0 < b) (hb : b < s.blocks.length) : ∃ p : Nat, par s b = p ∧ p < b ∧ certified c s p = true ∧ rnd s p < rnd s b := by
  obtain ⟨p1, p2, p3⟩ := h.wf.par b h0 hb
  obtain ⟨p, hp⟩ := Int.eq_ofNat_of_zero_le p1
  have hc := h.pc b h0 hb
  rw [hp] at p2 p3 hc
  exact ⟨p, hp, by omega, by simpa using hc, by simpa using p3⟩

theorem mem_up (h : WF c s) {b : Nat} (hb : b < s.blocks.length) : b ∈ upsFull s.blocks b := by
  rw [upsFull_step (WF.chn h).chain hb]
  simp
theorem mem_up_par (h : WF c s) {b p x : Nat} (hb : b < s.blocks.length) (hp : par s b = p) (hx : x ∈ upsFull s.blocks p) : x ∈ upsFull s.blocks b := by
  rw [upsFull_step (WF.chn h).chain hb]
  unfold Mo.par at hp
  rw [hp]
  exact List.mem_cons_of_mem _ hx

/-- what is certified behind a locked block extends it -/
theorem locks (hF : Few c f) (h : Inv c s) {a b : Nat} (ha0 : 0 < a) (ha : a < s.blocks.length) (hb : b < s.blocks.length) (hpa : par s a = b) (ca : certified c s a = true) (cb : certified c s b = true) (hr : rnd s a = rnd s b + 1) :
    ∀ (N : Nat) (x : Nat), (rnd s x).toNat ≤ N → x < s.blocks.length → certified c s x = true → rnd s b < rnd s x → b ∈ upsFull s.blocks x := by
  intro N
  induction N with
  | zero =>
    intro x hN hx _ hlt
    have := (h.wf.rnd b hb).1
    omega
  | succ N ih =>
    intro x hN hx cx hlt
    have hb0 := (h.wf.rnd b hb).1
    have hx0 : 0 < x := by rw [rnd_pos h.wf hx]; omega
    by_cases he : rnd s x = rnd s a
    · obtain rfl := one_round hF h hx ha cx ca he
      exact mem_up_par h.wf hx hpa (mem_up h.wf hb)
    · obtain ⟨p, hp, hpx, cp, hrp⟩ := par_cert h hx0 hx
      have hpl : p < s.blocks.length := by omega
      have hpt : (par s x).toNat = p := by omega
      have hgo : rnd s b ≤ rnd s p → b ∈ upsFull s.blocks x := by
        intro hle
        refine mem_up_par h.wf hx hp ?_
        by_cases e : rnd s b = rnd s p
        · rw [one_round hF h hb hpl cb cp e]
          exact mem_up h.wf hpl
        · exact ih p (by omega) hpl cp (by omega)
      obtain ⟨i, h1, h2, h3⟩ := meet2 hF h hx0 ha0 cx ca
      rcases h.v4 i x h3 hx h1 with h4 | h4
      · rw [hpt] at h4
        exact hgo (by omega)
      · rw [hpt] at h4
        unfold passed at h4
        simp only [decide_eq_true_eq] at h4
        have hgn : ∀ j, gaveUp s (rnd s x - 1) (rnd s p) j = true → j < c.n := by
          intro j hj
          obtain ⟨y, hy, hh⟩ := List.any_eq_true.1 hj
          simp only [Bool.and_eq_true, decide_eq_true_eq] at hh
          have := h.wf.late y hy
          omega
        obtain ⟨j, hj1, hj2, hj3⟩ := quorum hF.n1 hF.n7 hF.f3 hF.need hF.few (gaveUp s (rnd s x - 1) (rnd s p)) (has s a) hgn (fun i => h.vn a i) h4 (cert_count ha0 ca)
        obtain ⟨y, hy, hh⟩ := List.any_eq_true.1 hj1
        simp only [Bool.and_eq_true, decide_eq_true_eq] at hh
        obtain ⟨y1, y2, y3⟩ := y
        simp only at hh
        obtain ⟨⟨rfl, rfl⟩, hq⟩ := hh
        have h6 := h.v6 j _ _ a hj3 ha hy hj2 (by omega)
        rw [hpa] at h6
        simp only [Int.toNat_natCast] at h6
        exact hgo (by omega)
end
end Go.Proofs.YtkcekjpohpenkaaDoor
