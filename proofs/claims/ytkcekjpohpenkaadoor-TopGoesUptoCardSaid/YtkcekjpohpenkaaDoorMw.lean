import Derived.Test.YtkcekjpohpenkaaDoorMs
/- The assembly in plain Lean: what holds of every state on the way. -/
set_option linter.unusedVariables false
set_option linter.unusedSimpArgs false
namespace Go.Proofs.YtkcekjpohpenkaaDoor.Mo

theorem getD_snoc_lt {α : Type} (l : List α) (x d : α) {i : Nat} (h : i < l.length) : (l ++ [x]).getD i d = l.getD i d := by
  simp [List.getD_eq_getElem?_getD, List.getElem?_append_left h]
theorem getD_snoc_eq {α : Type} (l : List α) (x d : α) : (l ++ [x]).getD l.length d = x := by
  simp [List.getD_eq_getElem?_getD]
theorem getD_set_eq {α : Type} (l : List α) (x d : α) {i : Nat} (h : i < l.length) : (l.set i x).getD i d = x := by
  simp [List.getD_eq_getElem?_getD, h]
theorem getD_set_ne {α : Type} (l : List α) (x d : α) {i j : Nat} (h : i ≠ j) : (l.set i x).getD j d = l.getD j d := by
  simp [List.getD_eq_getElem?_getD, List.getElem?_set_ne h]
theorem getD_ge {α : Type} (l : List α) (d : α) {i : Nat} (h : l.length ≤ i) : l.getD i d = d := by
  simp [List.getD_eq_getElem?_getD, List.getElem?_eq_none h]

theorem WF.start {c : Cfg} (h1 : 1 ≤ c.n) (h7 : c.n ≤ 7) (hn : c.need ≤ c.n) (hl : c.liars < 2 ^ c.n) : WF c (start c) := by
  refine ⟨h1, h7, hn, hl, by simp [Mo.start], by simp [Mo.start], by simp [Mo.start], by simp [Mo.start], by simp [Mo.start], ?_, ?_, ?_, ?_, ?_, by simp [Mo.start], by simp [Mo.start]⟩
  · intro b h0 hb
    simp [Mo.start] at hb
    omega
  · intro b hb
    simp [Mo.start] at hb
    subst hb
    simp [Mo.rnd, Mo.start]
  · intro b
    have : (Mo.start c).votes.getD b 0 = 0 := by
      cases b with
      | zero => rfl
      | succ b => exact getD_ge _ _ (by simp [Mo.start])
    rw [this]
    exact Nat.two_pow_pos _
  · intro i hi
    have : (Mo.start c).members.getD i (0, 0) = (0, 0) := by simp [Mo.start, List.getD_eq_getElem?_getD, hi]
    simp only [Mo.voted, this]; omega
  · intro i hi
    have : (Mo.start c).members.getD i (0, 0) = (0, 0) := by simp [Mo.start, List.getD_eq_getElem?_getD, hi]
    simp only [Mo.knows, this]; omega

section
variable {c : Cfg} {s : St}

theorem isBlock_iff {b : Int} : isBlock s b = true ↔ 0 ≤ b ∧ b < s.blocks.length := by simp [isBlock]

theorem wf_behind (h : WF c s) (x : Say) : WF c (behind c s x).1 := by
  unfold behind
  split
  · exact h
  split
  · exact h
  split
  · exact h
  rename_i g1 g2 g3
  simp only [not_or, Bool.not_eq_false, isBlock_iff] at g1
  obtain ⟨⟨g4, g5⟩, g6, g7⟩ := g1
  have hl : s.blocks.length < 40 := by have := h.len40; omega
  refine ⟨h.n1, h.n7, h.need, h.liars, by simp, by simp; omega, by simp [h.vlen], h.mlen, ?_, ?_, ?_, ?_, h.voted, h.knows, h.late, h.gave⟩
  · rw [getD_snoc_lt _ _ _ (by have := h.len1; omega)]
    exact h.first
  · intro b h0 hb
    simp only [List.length_append, List.length_cons, List.length_nil, Nat.zero_add] at hb
    by_cases hbl : b < s.blocks.length
    · obtain ⟨p1, p2, p3⟩ := h.par b h0 hbl
      simp only [Mo.par, Mo.rnd] at p1 p2 p3 ⊢
      rw [getD_snoc_lt _ _ _ hbl, getD_snoc_lt _ _ _ (by omega)]
      exact ⟨p1, p2, p3⟩
    · obtain rfl : b = s.blocks.length := by omega
      simp only [Mo.par, Mo.rnd] at g6 ⊢
      rw [getD_snoc_eq, getD_snoc_lt _ _ _ (by omega)]
      exact ⟨g4, g5, by simp only; omega⟩
  · intro b hb
    simp only [List.length_append, List.length_cons, List.length_nil, Nat.zero_add] at hb
    simp only [Mo.rnd] at g6 ⊢
    by_cases hbl : b < s.blocks.length
    · rw [getD_snoc_lt _ _ _ hbl]
      exact h.rnd b hbl
    · obtain rfl : b = s.blocks.length := by omega
      rw [getD_snoc_eq]
      have := (h.rnd x.block.toNat (by omega)).1
      simp only [Mo.rnd] at this
      exact ⟨by simp only; omega, by simp only; omega⟩
  · intro b
    simp only
    by_cases hbl : b < s.votes.length
    · rw [getD_snoc_lt _ _ _ hbl]; exact h.votes b
    · by_cases he : b = s.votes.length
      · rw [he, getD_snoc_eq]; exact Nat.two_pow_pos _
      · rw [getD_ge _ _ (by simp; omega)]; exact Nat.two_pow_pos _

theorem wf_votes (h : WF c s) (b i : Nat) (hi : i < c.n) : WF c { s with votes := s.votes.set b (s.votes.getD b 0 ||| 2 ^ i) } := by
  refine ⟨h.n1, h.n7, h.need, h.liars, h.len1, h.len40, by simp [h.vlen], h.mlen, h.first, h.par, h.rnd, ?_, h.voted, h.knows, h.late, h.gave⟩
  intro j
  by_cases hj : b = j
  · subst hj
    by_cases hb : b < s.votes.length
    · rw [getD_set_eq _ _ _ hb]
      exact Nat.or_lt_two_pow (h.votes b) (Nat.pow_lt_pow_right (by omega) hi)
    · rw [getD_ge _ _ (by simp; omega)]; exact Nat.two_pow_pos _
  · rw [getD_set_ne _ _ _ hj]
    exact h.votes j

theorem wf_member (h : WF c s) (i : Nat) (v k : Int) (hv : 0 ≤ v ∧ v ≤ 1000) (hk : 0 ≤ k ∧ k ≤ 1000) : WF c { s with members := s.members.set i (v, k) } := by
  refine ⟨h.n1, h.n7, h.need, h.liars, h.len1, h.len40, h.vlen, by simp [h.mlen], h.first, h.par, h.rnd, h.votes, ?_, ?_, h.late, h.gave⟩
  · intro j hj
    simp only [Mo.voted]
    by_cases e : i = j
    · subst e; rw [getD_set_eq _ _ _ (by rw [h.mlen]; exact hj)]; exact hv
    · rw [getD_set_ne _ _ _ e]; exact h.voted j hj
  · intro j hj
    simp only [Mo.knows]
    by_cases e : i = j
    · subst e; rw [getD_set_eq _ _ _ (by rw [h.mlen]; exact hj)]; exact hk
    · rw [getD_set_ne _ _ _ e]; exact h.knows j hj

theorem wf_late (h : WF c s) (x : Int × Int × Int) (hx : 1 ≤ x.1 ∧ x.1 ≤ 1000 ∧ 0 ≤ x.2.1 ∧ x.2.1 < c.n ∧ 0 ≤ x.2.2 ∧ x.2.2 ≤ 1000) : WF c { s with late := x :: s.late } :=
  ⟨h.n1, h.n7, h.need, h.liars, h.len1, h.len40, h.vlen, h.mlen, h.first, h.par, h.rnd, h.votes, h.voted, h.knows, fun y hy => by
    rcases List.mem_cons.1 hy with rfl | hy
    · exact hx
    · exact h.late y hy, h.gave⟩
theorem wf_gave (h : WF c s) (x : Int × Int) (hx : 0 ≤ x.1 ∧ x.1 < c.n ∧ 1 ≤ x.2 ∧ x.2 ≤ 1000) : WF c { s with gave := x :: s.gave } :=
  ⟨h.n1, h.n7, h.need, h.liars, h.len1, h.len40, h.vlen, h.mlen, h.first, h.par, h.rnd, h.votes, h.voted, h.knows, h.late, fun y hy => by
    rcases List.mem_cons.1 hy with rfl | hy
    · exact hx
    · exact h.gave y hy⟩

theorem wf_vote (h : WF c s) (i : Nat) (b : Int) (hi : i < c.n) : WF c (vote c s i b).1 := by
  unfold vote
  split
  · exact h
  split
  · exact h
  rename_i g1 g2
  simp only [not_or, Bool.not_eq_false, isBlock_iff] at g1
  obtain ⟨⟨g4, g5⟩, g6⟩ := g1
  dsimp only
  split
  · exact wf_votes h _ i hi
  · obtain ⟨p1, p2, p3⟩ := h.par b.toNat (by omega) (by omega)
    have hp := h.rnd (par s b.toNat).toNat (by omega)
    have hk := h.knows i hi
    exact wf_member (wf_votes h b.toNat i hi) i _ _ (h.rnd b.toNat (by omega)) ⟨by omega, by omega⟩

theorem wf_giveUp (h : WF c s) (x : Say) (h0 : 0 ≤ x.who) (hn : x.who < c.n) : WF c (giveUp c s x).1 := by
  unfold giveUp
  split
  · exact h
  split
  · split
    · rename_i g1 g2 g3
      obtain ⟨b, hb, hh⟩ := List.any_eq_true.1 g3
      simp only [Bool.and_eq_true, decide_eq_true_eq] at hh
      have := h.rnd b (List.mem_range.1 hb)
      exact wf_late h _ ⟨by simp only; omega, by simp only; omega, h0, hn, by simp only; omega, by simp only; omega⟩
    · exact h
  split
  · exact h
  · have hv := h.voted x.who.toNat (by omega)
    have hk := h.knows x.who.toNat (by omega)
    refine wf_late (wf_member (wf_gave h (x.who, x.round) ⟨h0, hn, by simp only; omega, by simp only; omega⟩) x.who.toNat _ _ ⟨?_, ?_⟩ hk) (x.round, x.who, knows s x.who.toNat) ⟨by simp only; omega, by simp only; omega, h0, hn, hk.1, hk.2⟩
    · omega
    · omega

theorem wf_learn (h : WF c s) (i : Nat) (b : Int) (hi : i < c.n) : WF c (learn c s i b).1 := by
  unfold learn
  split
  · exact h
  split
  · exact h
  rename_i g1 g2
  simp only [Bool.not_eq_false, isBlock_iff] at g1
  have hk := h.knows i hi
  have hr := h.rnd b.toNat (by omega)
  exact wf_member h i _ _ (h.voted i hi) ⟨by omega, by omega⟩

theorem wf_step (h : WF c s) (x : Say) : WF c (step c s x).1 := by
  unfold step
  split
  · exact h
  split
  · exact wf_behind h x
  split
  · exact h
  split
  · exact wf_vote h _ _ (by omega)
  split
  · exact wf_giveUp h x (by omega) (by omega)
  · exact wf_learn h _ _ (by omega)

theorem wf_run (h : WF c s) (l : List Say) : WF c (run c s l).1 := by
  induction l generalizing s with
  | nil => exact h
  | cons x r ih => exact ih (wf_step h x)

theorem run_snoc (l : List Say) (x : Say) : run c s (l ++ [x]) = ((step c (run c s l).1 x).1, (run c s l).2 ++ [(step c (run c s l).1 x).2]) := by
  induction l generalizing s with
  | nil => rfl
  | cons y r ih => simp only [List.cons_append, run, ih]
theorem run_length (l : List Say) : (run c s l).2.length = l.length := by
  induction l generalizing s with
  | nil => rfl
  | cons y r ih => simp [run, ih]
theorem run_append (l r : List Say) : run c s (l ++ r) = ((run c (run c s l).1 r).1, (run c s l).2 ++ (run c (run c s l).1 r).2) := by
  induction l generalizing s with
  | nil => rfl
  | cons y t ih => simp only [List.cons_append, run, ih]
end
end Go.Proofs.YtkcekjpohpenkaaDoor.Mo
