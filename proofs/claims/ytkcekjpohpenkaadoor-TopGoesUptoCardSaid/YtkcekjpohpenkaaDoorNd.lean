import Derived.Test.YtkcekjpohpenkaaDoorNc
import Derived.Test.YtkcekjpohpenkaaDoorMv
/- The assembly in plain Lean: what is decided lies on one path. -/
set_option linter.unusedVariables false
set_option linter.unusedSimpArgs false
namespace Go.Proofs.YtkcekjpohpenkaaDoor
open Mo

theorem setAll_getD (ps : List Nat) : ∀ (l : List Bool) (p : Nat), (setAll l ps).getD p false = true ↔ l.getD p false = true ∨ (p ∈ ps ∧ p < l.length) := by
  induction ps with
  | nil => intro l p; simp [setAll]
  | cons x r ih =>
    intro l p
    have : setAll l (x :: r) = setAll (l.set x true) r := rfl
    rw [this, ih]
    simp only [List.length_set, List.mem_cons]
    by_cases e : x = p
    · subst e
      by_cases hx : x < l.length
      · rw [Mo.getD_set_eq _ _ _ hx]; simp [hx]
      · rw [Mo.getD_ge _ _ (by simp; omega), Mo.getD_ge _ _ (by omega)]; simp [hx]
    · rw [Mo.getD_set_ne _ _ _ e]
      constructor
      · rintro (h | h)
        · exact .inl h
        · exact .inr ⟨.inr h.1, h.2⟩
      · rintro (h | ⟨h | h, h'⟩)
        · exact .inl h
        · exact absurd h.symm e
        · exact .inr ⟨h, h'⟩

theorem dec_getD (bl : List (Int × Int)) (cert : List Bool) (p : Nat) : ∀ k, (dec bl cert k).getD p false = true ↔ ∃ j, j < k ∧ good bl cert j = true ∧ p ∈ upsFull bl (bl.getD j (0, 0)).1 ∧ p < bl.length := by
  intro k
  induction k with
  | zero =>
    simp only [dec]
    constructor
    · intro h
      by_cases hp : p < bl.length
      · simp [List.getD_eq_getElem?_getD, hp] at h
      · rw [Mo.getD_ge _ _ (by simp; omega)] at h; cases h
    · rintro ⟨j, hj, _⟩; omega
  | succ k ih =>
    cases hg : good bl cert k with
    | false =>
      rw [dec_bad hg, ih]
      constructor
      · rintro ⟨j, hj, h⟩; exact ⟨j, by omega, h⟩
      · rintro ⟨j, hj, h⟩
        by_cases e : j = k
        · subst e; rw [hg] at h; cases h.1
        · exact ⟨j, by omega, h⟩
    | true =>
      rw [dec_good hg, setAll_getD, ih, dec_length]
      constructor
      · rintro (⟨j, hj, h⟩ | h)
        · exact ⟨j, by omega, h⟩
        · exact ⟨k, by omega, hg, h⟩
      · rintro ⟨j, hj, h⟩
        by_cases e : j = k
        · subst e; exact .inr h.2
        · exact .inl ⟨j, by omega, h⟩

theorem certs_getD (c : Cfg) (s : St) (n b : Nat) (hb : b < n) : (certs c s n).getD b false = certified c s b := by
  simp [certs, hb]

section
variable {c : Cfg} {s : St} {f : Nat}

/-- what decides a block -/
theorem decided_iff (h : WF c s) (p : Nat) : (decided c s).getD p false = true ↔ ∃ a b : Nat, 0 < a ∧ a < s.blocks.length ∧ b < a ∧ par s a = b ∧ certified c s a = true ∧ certified c s b = true ∧ rnd s a = rnd s b + 1 ∧ p ∈ upsFull s.blocks b := by
  unfold decided
  rw [dec_getD]
  constructor
  · rintro ⟨a, ha, hg, hp, hpl⟩
    unfold good at hg
    simp only [Bool.and_eq_true, bne_iff_ne, ne_eq, beq_iff_eq] at hg
    obtain ⟨⟨⟨g1, g2⟩, g3⟩, g4⟩ := hg
    obtain ⟨q1, q2, q3⟩ := h.par a (by omega) ha
    obtain ⟨b, hb⟩ := Int.eq_ofNat_of_zero_le q1
    have hb' : (s.blocks.getD a (0, 0)).1 = (b : Int) := hb
    rw [hb'] at g3 g4 hp
    rw [hb] at q2
    rw [certs_getD _ _ _ _ ha] at g2
    simp only [Int.toNat_natCast] at g3 g4
    rw [certs_getD _ _ _ _ (by omega)] at g3
    exact ⟨a, b, by omega, ha, by omega, hb, g2, g3, g4, hp⟩
  · rintro ⟨a, b, h0, ha, hba, hb, ca, cb, hr, hp⟩
    have hb' : (s.blocks.getD a (0, 0)).1 = (b : Int) := hb
    refine ⟨a, ha, ?_, by rw [hb']; exact hp, mem_ups (WF.chn h).chain _ _ (by omega) hp⟩
    unfold good
    rw [hb', Int.toNat_natCast, certs_getD _ _ _ _ ha, certs_getD _ _ _ _ (by omega), ca, cb]
    have hr' : (s.blocks.getD a (0, 0)).2 = (s.blocks.getD b (0, 0)).2 + 1 := hr
    rw [hr']
    simp
    omega

theorem up_le (h : WF c s) : ∀ (X : Nat), X < s.blocks.length → ∀ x, x ∈ upsFull s.blocks X → x ≤ X := by
  intro X
  induction X using Nat.strongRecOn with
  | _ X ih =>
    intro hX x hx
    rw [upsFull_step (WF.chn h).chain hX] at hx
    rcases List.mem_cons.1 hx with rfl | hx
    · exact Nat.le_refl _
    · by_cases h0 : X = 0
      · subst h0
        rw [h.first, upsFull_neg (by simp)] at hx
        cases hx
      · obtain ⟨q1, q2, q3⟩ := h.par X (by omega) hX
        obtain ⟨p, hp⟩ := Int.eq_ofNat_of_zero_le q1
        have hp' : (s.blocks.getD X (0, 0)).1 = (p : Int) := hp
        rw [hp'] at hx
        have := ih p (by omega) (by omega) x hx
        omega

/-- of two blocks on one path the lesser lies on the greater one's -/
theorem up_chain (h : WF c s) : ∀ (X : Nat), X < s.blocks.length → ∀ x y, x ∈ upsFull s.blocks X → y ∈ upsFull s.blocks X → y ≤ x → y ∈ upsFull s.blocks x := by
  intro X
  induction X using Nat.strongRecOn with
  | _ X ih =>
    intro hX x y hx hy hle
    have hst := upsFull_step (WF.chn h).chain hX
    rw [hst] at hx
    rcases List.mem_cons.1 hx with rfl | hx
    · exact hy
    · by_cases h0 : X = 0
      · subst h0
        rw [h.first, upsFull_neg (by simp)] at hx
        cases hx
      · obtain ⟨q1, q2, q3⟩ := h.par X (by omega) hX
        obtain ⟨p, hp⟩ := Int.eq_ofNat_of_zero_le q1
        have hp' : (s.blocks.getD X (0, 0)).1 = (p : Int) := hp
        rw [hp'] at hx hst
        have hxp := up_le h p (by omega) x hx
        rw [hst] at hy
        rcases List.mem_cons.1 hy with rfl | hy
        · omega
        · exact ih p (by omega) (by omega) x y hx hy hle

theorem up_trans (h : WF c s) : ∀ (X : Nat), X < s.blocks.length → ∀ x y, x ∈ upsFull s.blocks X → y ∈ upsFull s.blocks x → y ∈ upsFull s.blocks X := by
  intro X
  induction X using Nat.strongRecOn with
  | _ X ih =>
    intro hX x y hx hy
    have hst := upsFull_step (WF.chn h).chain hX
    rw [hst] at hx
    rcases List.mem_cons.1 hx with rfl | hx
    · exact hy
    · by_cases h0 : X = 0
      · subst h0
        rw [h.first, upsFull_neg (by simp)] at hx
        cases hx
      · obtain ⟨q1, q2, q3⟩ := h.par X (by omega) hX
        obtain ⟨p, hp⟩ := Int.eq_ofNat_of_zero_le q1
        have hp' : (s.blocks.getD X (0, 0)).1 = (p : Int) := hp
        rw [hp'] at hx hst
        rw [hst]
        exact List.mem_cons_of_mem _ (ih p (by omega) (by omega) x y hx hy)

/-- of each two decided blocks one extends the other one -/
theorem safe (hF : Few c f) (h : Inv c s) {a b : Nat} (da : (decided c s).getD a false = true) (db : (decided c s).getD b false = true) (hlt : b ≤ a) : b ∈ upsFull s.blocks a := by
  obtain ⟨c1, B1, p0, p1, p2, p3, p4, p5, p6, p7⟩ := (decided_iff h.wf a).1 da
  obtain ⟨c2, B2, q0, q1, q2, q3, q4, q5, q6, q7⟩ := (decided_iff h.wf b).1 db
  by_cases e : rnd s B1 = rnd s B2
  · have := one_round hF h (by omega) (by omega) p5 q5 e
    subst this
    exact up_chain h.wf B1 (by omega) a b p7 q7 hlt
  · by_cases l : rnd s B1 < rnd s B2
    · have hl := locks hF h p0 p1 (by omega) p3 p4 p5 p6 _ B2 (Nat.le_refl _) (by omega) q5 l
      exact up_chain h.wf B2 (by omega) a b (up_trans h.wf B2 (by omega) _ _ hl p7) q7 hlt
    · have hl := locks hF h q0 q1 (by omega) q3 q4 q5 q6 _ B1 (Nat.le_refl _) (by omega) p5 (by omega)
      exact up_chain h.wf B1 (by omega) a b p7 (up_trans h.wf B1 (by omega) _ _ hl q7) hlt
end
end Go.Proofs.YtkcekjpohpenkaaDoor
