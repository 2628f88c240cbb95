import Derived.Test.YtkcekjpohpenkaaDoorNb
/- The assembly in plain Lean: what the steps that vote do. -/
set_option linter.unusedVariables false
set_option linter.unusedSimpArgs false
namespace Go.Proofs.YtkcekjpohpenkaaDoor.Mo

theorem countP_one {p q : Nat → Bool} {i : Nat} (hp : p i = false) (hq : ∀ j, q j = (p j || decide (i = j))) : ∀ (l : List Nat), l.Nodup → i ∈ l → l.countP q = l.countP p + 1
  | [], _, h => by simp at h
  | x :: r, hn, h => by
    obtain ⟨hx, hn⟩ := List.nodup_cons.1 hn
    simp only [List.countP_cons]
    by_cases e : i = x
    · subst e
      have hr : r.countP q = r.countP p := by
        refine List.countP_congr fun j hj => ?_
        rw [hq]
        have : i ≠ j := by rintro rfl; exact hx hj
        simp [this]
      rw [hr, hq, hp]
      simp
    · have hi : i ∈ r := by
        rcases List.mem_cons.1 h with h | h
        · exact absurd h e
        · exact h
      rw [countP_one hp hq r hn hi, hq]
      simp only [e, decide_false, Bool.or_false]
      omega

/-- one more bit -/
theorem pop_or {v i : Nat} (h : v.testBit i = false) (hi : i < 32) : pop (v ||| 2 ^ i) = pop v + 1 := by
  unfold pop
  refine countP_one h (fun j => ?_) _ List.nodup_range (List.mem_range.2 hi)
  rw [Nat.testBit_or, Nat.testBit_two_pow]

section
variable {c : Cfg} {s : St}

/-- a vote that was taken -/
theorem voted_ok {x : Say} (hw : WF c s) (hk : x.kind = 2) (h : (step c s x).2 = 0) :
    ∃ i b : Nat, x.who = i ∧ x.block = b ∧ i < c.n ∧ 0 < b ∧ b < s.blocks.length ∧ has s b i = false ∧ (lies c i = false → voted s i < rnd s b) ∧
      (step c s x).1.blocks = s.blocks ∧ (step c s x).1.votes = s.votes.set b (s.votes.getD b 0 ||| 2 ^ i) ∧
      (lies c i = false → voted (step c s x).1 i = rnd s b) := by
  have hs : step c s x = if x.who < 0 ∨ (c.n : Int) ≤ x.who then (s, 2) else vote c s x.who.toNat x.block := by
    unfold step
    rw [if_neg (by omega), if_neg (by omega)]
    simp only [hk, if_true]
  rw [hs] at h ⊢
  by_cases hwho : x.who < 0 ∨ (c.n : Int) ≤ x.who
  · rw [if_pos hwho] at h; simp at h
  · rw [if_neg hwho] at h ⊢
    obtain ⟨i, hi⟩ := Int.eq_ofNat_of_zero_le (show 0 ≤ x.who by omega)
    rw [hi] at h ⊢
    simp only [Int.toNat_natCast] at h ⊢
    unfold vote at h ⊢
    split at h
    · simp at h
    rename_i g1
    rw [if_neg g1]
    simp only [not_or, Bool.not_eq_false, isBlock_iff] at g1
    obtain ⟨⟨g4, g5⟩, g6⟩ := g1
    obtain ⟨b, hb⟩ := Int.eq_ofNat_of_zero_le g4
    rw [hb] at h g5 g6 ⊢
    simp only [Int.toNat_natCast] at h ⊢
    split at h
    · simp at h
    rename_i g2
    rw [if_neg g2]
    simp only [not_or, Bool.not_eq_true, not_and, Bool.not_eq_false] at g2
    have hin : i < c.n := by omega
    refine ⟨i, b, rfl, rfl, hin, by omega, by omega, g2.1, ?_, ?_, ?_, ?_⟩
    · intro hl
      have := g2.2 hl
      unfold agrees at this
      simp only [Bool.and_eq_true, decide_eq_true_eq] at this
      exact this.1
    · split <;> rfl
    · split <;> rfl
    · intro hl
      rw [hl]
      simp only [Bool.false_eq_true, if_false]
      unfold voted
      simp only
      rw [getD_set_eq _ _ _ (by rw [hw.mlen]; exact hin)]

/-- what else happens leaves the votes -/
theorem votes_else (h : WF c s) {x : Say} (hk : x.kind ≠ 2 ∨ (step c s x).2 ≠ 0) (b : Nat) : (step c s x).1.votes.getD b 0 = s.votes.getD b 0 := by
  unfold step at hk ⊢
  split
  · rfl
  rename_i g0
  rw [if_neg g0] at hk
  split
  · unfold behind
    split
    · rfl
    split
    · rfl
    split
    · rfl
    · simp only
      by_cases hb : b < s.votes.length
      · rw [getD_snoc_lt _ _ _ hb]
      · by_cases e : b = s.votes.length
        · subst e; rw [getD_snoc_eq, getD_ge _ _ (Nat.le_refl _)]
        · rw [getD_ge _ _ (by simp; omega), getD_ge _ _ (by omega)]
  rename_i g1
  rw [if_neg g1] at hk
  split
  · rfl
  rename_i g2
  rw [if_neg g2] at hk
  split
  · rename_i g3
    rw [if_pos g3] at hk
    have hk' := hk.resolve_left (by simp [g3])
    unfold vote at hk' ⊢
    split
    · rfl
    rename_i g4
    rw [if_neg g4] at hk'
    split
    · rfl
    rename_i g5
    rw [if_neg g5] at hk'
    exfalso
    apply hk'
    split <;> rfl
  split
  · unfold giveUp
    split
    · rfl
    split
    · split <;> rfl
    split <;> rfl
  · unfold learn
    split
    · rfl
    split <;> rfl

theorem fst_set (m : List (Int × Int)) (k : Nat) (v q : Int) (hv : (m.getD k (0, 0)).1 ≤ v) (i : Nat) : (m.getD i (0, 0)).1 ≤ ((m.set k (v, q)).getD i (0, 0)).1 := by
  by_cases e : k = i
  · subst e
    by_cases hk : k < m.length
    · rw [getD_set_eq _ _ _ hk]; exact hv
    · rw [getD_ge m _ (by omega), getD_ge _ _ (by simp; omega)]; exact Int.le_refl _
  · rw [getD_set_ne _ _ _ e]; exact Int.le_refl _

/-- nobody's last vote falls -/
theorem voted_mono (s : St) (x : Say) (i : Nat) : voted s i ≤ voted (step c s x).1 i := by
  unfold step
  split
  · exact Int.le_refl _
  split
  · unfold behind
    split
    · exact Int.le_refl _
    split
    · exact Int.le_refl _
    split <;> exact Int.le_refl _
  split
  · exact Int.le_refl _
  split
  · unfold vote
    split
    · exact Int.le_refl _
    split
    · exact Int.le_refl _
    rename_i g
    simp only [not_or, Bool.not_eq_true, not_and, Bool.not_eq_false] at g
    dsimp only
    split
    · exact Int.le_refl _
    · rename_i gl
      have ha := g.2 (by simpa using gl)
      unfold agrees at ha
      simp only [Bool.and_eq_true, decide_eq_true_eq] at ha
      have h1 := ha.1
      unfold voted at h1 ⊢
      exact fst_set _ _ _ _ (by omega) i
  split
  · unfold giveUp
    split
    · exact Int.le_refl _
    split
    · split <;> exact Int.le_refl _
    split
    · exact Int.le_refl _
    · unfold voted
      exact fst_set _ _ _ _ (by omega) i
  · unfold learn
    split
    · exact Int.le_refl _
    split
    · exact Int.le_refl _
    · unfold voted
      exact fst_set _ _ _ _ (Int.le_refl _) i
end
end Go.Proofs.YtkcekjpohpenkaaDoor.Mo
