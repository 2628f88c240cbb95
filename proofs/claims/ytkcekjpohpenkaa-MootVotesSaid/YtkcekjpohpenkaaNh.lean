import Derived.Test.YtkcekjpohpenkaaNg
/- The assembly in plain Lean: the tally of the votes taken. -/
set_option linter.unusedVariables false
set_option linter.unusedSimpArgs false
namespace Go.Proofs.Ytkcekjpohpenkaa.Mo

structure Tally (c : Cfg) (s : St) (L : Nat) (vs : List Nat) (ls : List Int) : Prop where
  vlen : vs.length = L
  llen : ls.length = c.n
  v : ∀ b, vs.getD b 0 = if b < L then pop (s.votes.getD b 0) else 0
  l : ∀ i, i < c.n → lies c i = false → ls.getD i 0 ≤ voted s i

theorem pop_zero : pop 0 = 0 := by decide
theorem pop_le (x : Nat) : pop x ≤ 32 := by
  unfold pop
  exact Nat.le_trans List.countP_le_length (by simp)

section
variable {c : Cfg} {s : St} {L : Nat} {vs : List Nat} {ls : List Int}
theorem tally_start (L : Nat) : Tally c (start c) L (List.replicate L 0) (List.replicate c.n 0) := by
  refine ⟨by simp, by simp, fun b => ?_, fun i hi _ => ?_⟩
  · have h1 : (List.replicate L 0).getD b 0 = 0 := by
      by_cases hb : b < L
      · simp [List.getD_eq_getElem?_getD, hb]
      · exact getD_ge _ _ (by simp; omega)
    have h2 : (start c).votes.getD b 0 = 0 := by
      cases b with
      | zero => rfl
      | succ b => exact getD_ge _ _ (by simp [Mo.start])
    rw [h1, h2, pop_zero]
    simp
  · have h1 : (List.replicate c.n (0 : Int)).getD i 0 = 0 := by simp [List.getD_eq_getElem?_getD, hi]
    have h2 : (start c).members.getD i (0, 0) = (0, 0) := by simp [Mo.start, List.getD_eq_getElem?_getD, hi]
    rw [h1]
    unfold voted
    rw [h2]
    exact Int.le_refl _

theorem tally_else (h : Tally c s L vs ls) (hw : WF c s) {x : Say} (hk : x.kind ≠ 2 ∨ (step c s x).2 ≠ 0) : Tally c (step c s x).1 L vs ls :=
  ⟨h.vlen, h.llen, fun b => by rw [votes_else hw hk]; exact h.v b, fun i hi hl => Int.le_trans (h.l i hi hl) (voted_mono s x i)⟩

theorem tally_vote (h : Tally c s L vs ls) (hw : WF c s) (hL : s.blocks.length ≤ L) {x : Say} {i b : Nat} (hi : i < c.n) (hb : b < s.blocks.length) (hn : has s b i = false)
    (he : (step c s x).1.votes = s.votes.set b (s.votes.getD b 0 ||| 2 ^ i)) (hv : lies c i = false → voted (step c s x).1 i = rnd s b) :
    Tally c (step c s x).1 L (vs.set b (vs.getD b 0 + 1)) (if lies c i = false then ls.set i (rnd s b) else ls) := by
  have h7 := hw.n7
  have hvl := hw.vlen
  refine ⟨by simp [h.vlen], by split <;> simp [h.llen], fun b' => ?_, fun j hj hlj => ?_⟩
  · rw [he]
    by_cases e : b = b'
    · subst e
      rw [getD_set_eq _ _ _ (by rw [h.vlen]; omega), getD_set_eq _ _ _ (by omega), h.v, if_pos (by omega), if_pos (by omega), pop_or hn (by omega)]
    · rw [getD_set_ne _ _ _ e, getD_set_ne _ _ _ e]
      exact h.v b'
  · by_cases e : i = j
    · subst e
      rw [if_pos hlj, getD_set_eq _ _ _ (by rw [h.llen]; exact hj), hv hlj]
      exact Int.le_refl _
    · have : (if lies c i = false then ls.set i (rnd s b) else ls).getD j 0 = ls.getD j 0 := by
        split
        · exact getD_set_ne _ _ _ e
        · rfl
      rw [this]
      exact Int.le_trans (h.l j hj hlj) (voted_mono s x j)
theorem codes_at (s : St) : ∀ (l : List Say) (k : Nat) (x : Say), l[k]? = some x → (run c s l).2[k]? = some (step c (run c s (l.take k)).1 x).2
  | [], k, x, h => by simp at h
  | y :: r, 0, x, h => by
    simp at h
    subst h
    simp [run]
  | y :: r, k + 1, x, h => by
    have := codes_at (step c s y).1 r k x (by simpa using h)
    simpa [run] using this
theorem run_take_succ (s : St) (l : List Say) (k : Nat) (x : Say) (h : l[k]? = some x) : (run c s (l.take (k + 1))).1 = (step c (run c s (l.take k)).1 x).1 := by
  have ht : l.take (k + 1) = l.take k ++ [x] := by rw [List.take_add_one, h]; rfl
  rw [ht, run_snoc]
end
end Go.Proofs.Ytkcekjpohpenkaa.Mo
