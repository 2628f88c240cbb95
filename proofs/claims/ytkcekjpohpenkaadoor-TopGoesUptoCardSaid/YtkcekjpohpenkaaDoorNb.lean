import Derived.Test.YtkcekjpohpenkaaDoorNa
/- The assembly in plain Lean: each step keeps what holds. -/
set_option linter.unusedVariables false
set_option linter.unusedSimpArgs false
namespace Go.Proofs.YtkcekjpohpenkaaDoor.Mo
section
variable {c : Cfg} {s : St}

theorem inv_behind (h : Inv c s) (x : Say) : Inv c (behind c s x).1 := by
  have hg := grow_behind h.wf x
  have hw := wf_behind h.wf x
  unfold behind at hg hw ⊢
  split
  · exact h
  rename_i g1
  rw [if_neg g1] at hg hw
  split
  · exact h
  rename_i g2
  rw [if_neg g2] at hg hw
  split
  · exact h
  rename_i g3
  rw [if_neg g3] at hg hw
  simp only [not_or, Bool.not_eq_false, isBlock_iff] at g1
  obtain ⟨⟨g4, g5⟩, g6, g7⟩ := g1
  have hl1 := h.wf.len1
  have hhas : ∀ b i, has { s with blocks := s.blocks ++ [(x.block, x.round)], votes := s.votes ++ [0] } b i = has s b i := by
    intro b i
    unfold has
    simp only
    by_cases hb : b < s.votes.length
    · rw [getD_snoc_lt _ _ _ hb]
    · rw [getD_ge s.votes _ (by omega)]
      by_cases he : b = s.votes.length
      · rw [he, getD_snoc_eq]
      · rw [getD_ge _ _ (by simp; omega)]
  have hold : ∀ b i, has s b i = true → b < s.blocks.length := by
    intro b i hh
    rcases Nat.lt_or_ge b s.blocks.length with hb | hb
    · exact hb
    · unfold has at hh
      rw [getD_ge _ _ (by rw [h.wf.vlen]; exact hb)] at hh
      simp at hh
  have hnew : par { s with blocks := s.blocks ++ [(x.block, x.round)], votes := s.votes ++ [0] } s.blocks.length = x.block := by
    unfold par; simp only; rw [getD_snoc_eq]
  have hpl : ∀ {i b}, has s b i = true → (par s b).toNat < s.blocks.length := by
    intro i b hh
    have hb := hold b i hh
    have h0 : 0 < b := by
      rcases Nat.eq_zero_or_pos b with h0 | h0
      · subst h0; rw [h.v0] at hh; cases hh
      · exact h0
    have := h.wf.par b h0 hb
    omega
  refine ⟨hw, fun i => by rw [hhas]; exact h.v0 i, ?_, fun b i hh => h.vn b i (by rw [hhas] at hh; exact hh), ?_, ?_, ?_, ?_, ?_, h.v7⟩
  · intro b h0 hb
    by_cases hbl : b < s.blocks.length
    · rw [hg.par hbl]
      have := h.wf.par b h0 hbl
      exact hg.cert (by omega) (h.pc b h0 hbl)
    · have he : b = s.blocks.length := by simp at hb; omega
      rw [he, hnew]
      exact hg.cert (by omega) (by simpa using g2)
  · intro i b hi hb hh
    rw [hhas] at hh
    rw [hg.rnd (hold b i hh)]
    exact h.v2 i b hi (hold b i hh) hh
  · intro i a b hi ha hb hha hhb he
    rw [hhas] at hha hhb
    rw [hg.rnd (hold a i hha), hg.rnd (hold b i hhb)] at he
    exact h.v3 i a b hi (hold a i hha) (hold b i hhb) hha hhb he
  · intro i b hi hb hh
    rw [hhas] at hh
    rw [hg.rnd (hold b i hh), hg.par (hold b i hh), hg.rnd (hpl hh)]
    rcases h.v4 i b hi (hold b i hh) hh with h1 | h1
    · exact .inl h1
    · exact .inr (hg.passed h1)
  · intro i b hi hb hh
    rw [hhas] at hh
    rw [hg.par (hold b i hh), hg.rnd (hpl hh)]
    exact h.v5 i b hi (hold b i hh) hh
  · intro i r q b hi hb hl hh hr
    rw [hhas] at hh
    rw [hg.rnd (hold b i hh)] at hr
    rw [hg.par (hold b i hh), hg.rnd (hpl hh)]
    exact h.v6 i r q b hi (hold b i hh) hl hh hr

/-- who lies votes -/
theorem inv_votes_liar (h : Inv c s) {b i : Nat} (h0 : 0 < b) (hb : b < s.blocks.length) (hi : i < c.n) (hl : lies c i = true) : Inv c { s with votes := s.votes.set b (s.votes.getD b 0 ||| 2 ^ i) } := by
  have hg : Grow s { s with votes := s.votes.set b (s.votes.getD b 0 ||| 2 ^ i) } := grow_votes h.wf hb s.members
  have hhas : ∀ b' j, has { s with votes := s.votes.set b (s.votes.getD b 0 ||| 2 ^ i) } b' j = (has s b' j || (decide (b = b') && decide (i = j))) := fun b' j => has_or h.wf hb
  have hhon : ∀ b' j, lies c j = false → has { s with votes := s.votes.set b (s.votes.getD b 0 ||| 2 ^ i) } b' j = has s b' j := by
    intro b' j hj
    rw [hhas]
    have : i ≠ j := by rintro rfl; rw [hl] at hj; cases hj
    simp [this]
  refine ⟨wf_votes h.wf b i hi, ?_, ?_, ?_, ?_, ?_, ?_, ?_, ?_, h.v7⟩
  · intro j
    rw [hhas, h.v0]
    simp
    omega
  · intro b' h0' hb'
    have hb'' : b' < s.blocks.length := hb'
    have := h.wf.par b' h0' hb''
    exact hg.cert (b := (par s b').toNat) (by omega) (h.pc b' h0' hb'')
  · intro b' j hh
    rw [hhas] at hh
    simp only [Bool.or_eq_true, Bool.and_eq_true, decide_eq_true_eq] at hh
    rcases hh with hh | ⟨_, rfl⟩
    · exact h.vn b' j hh
    · exact hi
  · intro j b' hj hb' hh
    rw [hhon _ _ hj] at hh
    exact h.v2 j b' hj hb' hh
  · intro j a b' hj ha hb' hha hhb he
    rw [hhon _ _ hj] at hha hhb
    exact h.v3 j a b' hj ha hb' hha hhb he
  · intro j b' hj hb' hh
    rw [hhon _ _ hj] at hh
    rcases h.v4 j b' hj hb' hh with h1 | h1
    · exact .inl h1
    · exact .inr (hg.passed h1)
  · intro j b' hj hb' hh
    rw [hhon _ _ hj] at hh
    exact h.v5 j b' hj hb' hh
  · intro j r q b' hj hb' hlt hh hr
    rw [hhon _ _ hj] at hh
    exact h.v6 j r q b' hj hb' hlt hh hr

/-- members as they were, or further on -/
theorem voted_set {m : List (Int × Int)} (i : Nat) (v k : Int) (hv : ∀ p, m.getD i (0, 0) = p → p.1 ≤ v) (j : Nat) : (m.getD j (0, 0)).1 ≤ ((m.set i (v, k)).getD j (0, 0)).1 ∨ m.length ≤ i := by
  by_cases hi : i < m.length
  · left
    by_cases e : i = j
    · subst e
      rw [getD_set_eq _ _ _ hi]
      exact hv _ rfl
    · rw [getD_set_ne _ _ _ e]
      exact Int.le_refl _
  · right; omega

theorem inv_vote_honest (h : Inv c s) {b i : Nat} (h0 : 0 < b) (hb : b < s.blocks.length) (hi : i < c.n) (hl : lies c i = false) (ha : agrees c s i b = true) :
    Inv c { s with votes := s.votes.set b (s.votes.getD b 0 ||| 2 ^ i), members := s.members.set i (rnd s b, max (knows s i) (rnd s (par s b).toNat)) } := by
  have hg : Grow s { s with votes := s.votes.set b (s.votes.getD b 0 ||| 2 ^ i), members := s.members.set i (rnd s b, max (knows s i) (rnd s (par s b).toNat)) } := grow_votes h.wf hb _
  have hhas : ∀ b' j, has { s with votes := s.votes.set b (s.votes.getD b 0 ||| 2 ^ i), members := s.members.set i (rnd s b, max (knows s i) (rnd s (par s b).toNat)) } b' j = (has s b' j || (decide (b = b') && decide (i = j))) := fun b' j => has_or h.wf hb
  unfold agrees at ha
  simp only [Bool.and_eq_true, Bool.or_eq_true, decide_eq_true_eq] at ha
  obtain ⟨ha1, ha2⟩ := ha
  have hil : i < s.members.length := by rw [h.wf.mlen]; exact hi
  have hvi : voted { s with votes := s.votes.set b (s.votes.getD b 0 ||| 2 ^ i), members := s.members.set i (rnd s b, max (knows s i) (rnd s (par s b).toNat)) } i = rnd s b := by
    unfold voted; simp only; rw [getD_set_eq _ _ _ hil]
  have hki : knows { s with votes := s.votes.set b (s.votes.getD b 0 ||| 2 ^ i), members := s.members.set i (rnd s b, max (knows s i) (rnd s (par s b).toNat)) } i = max (knows s i) (rnd s (par s b).toNat) := by
    unfold knows; simp only; rw [getD_set_eq _ _ _ hil]
  have hvj : ∀ j, i ≠ j → voted { s with votes := s.votes.set b (s.votes.getD b 0 ||| 2 ^ i), members := s.members.set i (rnd s b, max (knows s i) (rnd s (par s b).toNat)) } j = voted s j := by
    intro j e; unfold voted; simp only; rw [getD_set_ne _ _ _ e]
  have hkj : ∀ j, i ≠ j → knows { s with votes := s.votes.set b (s.votes.getD b 0 ||| 2 ^ i), members := s.members.set i (rnd s b, max (knows s i) (rnd s (par s b).toNat)) } j = knows s j := by
    intro j e; unfold knows; simp only; rw [getD_set_ne _ _ _ e]
  have hp := h.wf.par b h0 hb
  have hrp := h.wf.rnd (par s b).toNat (by omega)
  have hrb := h.wf.rnd b hb
  have hkk := h.wf.knows i hi
  have cases_ : ∀ {b' j}, has { s with votes := s.votes.set b (s.votes.getD b 0 ||| 2 ^ i), members := s.members.set i (rnd s b, max (knows s i) (rnd s (par s b).toNat)) } b' j = true → has s b' j = true ∨ (b' = b ∧ j = i) := by
    intro b' j hh
    rw [hhas] at hh
    simp only [Bool.or_eq_true, Bool.and_eq_true, decide_eq_true_eq] at hh
    rcases hh with hh | ⟨rfl, rfl⟩
    · exact .inl hh
    · exact .inr ⟨rfl, rfl⟩
  refine ⟨wf_member (wf_votes h.wf b i hi) i _ _ hrb ⟨by omega, by omega⟩, ?_, ?_, ?_, ?_, ?_, ?_, ?_, ?_, ?_⟩
  · intro j
    rw [hhas, h.v0]
    simp
    omega
  · intro b' h0' hb'
    have hb'' : b' < s.blocks.length := hb'
    have := h.wf.par b' h0' hb''
    exact hg.cert (b := (par s b').toNat) (by omega) (h.pc b' h0' hb'')
  · intro b' j hh
    rcases cases_ hh with hh | ⟨_, rfl⟩
    · exact h.vn b' j hh
    · exact hi
  · intro j b' hj hb' hh
    show rnd s b' ≤ _
    rcases cases_ hh with hh | ⟨rfl, rfl⟩
    · have h2 := h.v2 j b' hj hb' hh
      by_cases e : i = j
      · subst e; rw [hvi]; omega
      · rw [hvj _ e]; exact h2
    · rw [hvi]; exact Int.le_refl _
  · intro j a b' hj haa hb' hha hhb he
    change rnd s a = rnd s b' at he
    rcases cases_ hha with ga | ⟨ea, ej⟩ <;> rcases cases_ hhb with gb | ⟨eb, ej'⟩
    · exact h.v3 j a b' hj haa hb' ga gb he
    · subst eb ej'
      have := h.v2 j a hj haa ga
      omega
    · subst ea ej
      have := h.v2 j b' hj hb' gb
      omega
    · rw [ea, eb]
  · intro j b' hj hb' hh
    show rnd s (par s b').toNat = rnd s b' - 1 ∨ _
    rcases cases_ hh with hh | ⟨rfl, rfl⟩
    · rcases h.v4 j b' hj hb' hh with h1 | h1
      · exact .inl h1
      · exact .inr (hg.passed h1)
    · rcases ha2 with h1 | h1
      · exact .inl h1
      · exact .inr (hg.passed h1)
  · intro j b' hj hb' hh
    show rnd s (par s b').toNat ≤ _
    rcases cases_ hh with hh | ⟨rfl, rfl⟩
    · have h5 := h.v5 j b' hj hb' hh
      by_cases e : i = j
      · subst e; rw [hki]; omega
      · rw [hkj _ e]; exact h5
    · rw [hki]; omega
  · intro j r q b' hj hb' hlt hh hr
    show rnd s (par s b').toNat ≤ q
    change rnd s b' ≤ r at hr
    rcases cases_ hh with hh | ⟨rfl, rfl⟩
    · exact h.v6 j r q b' hj hb' hlt hh hr
    · have := h.v7 j r q hj hlt
      omega
  · intro j r q hj hlt
    have h7 := h.v7 j r q hj hlt
    by_cases e : i = j
    · subst e; rw [hvi]; omega
    · rw [hvj _ e]; exact h7

theorem inv_vote (h : Inv c s) (i : Nat) (b : Int) (hi : i < c.n) : Inv c (vote c s i b).1 := by
  unfold vote
  split
  · exact h
  split
  · exact h
  rename_i g1 g2
  simp only [not_or, Bool.not_eq_false, isBlock_iff] at g1
  obtain ⟨⟨g4, g5⟩, g6⟩ := g1
  dsimp only
  split
  · rename_i g
    exact inv_votes_liar h (by omega) (by omega) hi g
  · rename_i g
    simp only [Bool.not_eq_true] at g
    refine inv_vote_honest h (by omega) (by omega) hi g ?_
    cases ha : agrees c s i b.toNat with
    | true => rfl
    | false => exact absurd (Or.inr ⟨g, ha⟩) g2

theorem inv_late_liar (h : Inv c s) (r : Int) (i : Nat) (q : Int) (hw : WF c { s with late := (r, (i : Int), q) :: s.late }) (hl : lies c i = true) : Inv c { s with late := (r, (i : Int), q) :: s.late } := by
  have hg : Grow s { s with late := (r, (i : Int), q) :: s.late } := ⟨Nat.le_refl _, fun _ _ => rfl, fun _ _ _ h => h, fun x hx => List.mem_cons_of_mem _ hx⟩
  have hm : ∀ {j : Nat} {r' q'}, lies c j = false → (r', (j : Int), q') ∈ (r, (i : Int), q) :: s.late → (r', (j : Int), q') ∈ s.late := by
    intro j r' q' hj hm
    rcases List.mem_cons.1 hm with e | hm
    · simp only [Prod.mk.injEq] at e
      have : j = i := by omega
      subst this
      rw [hl] at hj; cases hj
    · exact hm
  refine ⟨hw, h.v0, h.pc, h.vn, h.v2, h.v3, ?_, h.v5, ?_, ?_⟩
  · intro j b hj hb hh
    rcases h.v4 j b hj hb hh with h1 | h1
    · exact .inl h1
    · exact .inr (hg.passed h1)
  · intro j r' q' b hj hb hlt hh hr
    exact h.v6 j r' q' b hj hb (hm hj hlt) hh hr
  · intro j r' q' hj hlt
    exact h.v7 j r' q' hj (hm hj hlt)

theorem inv_give (h : Inv c s) (r : Int) (i : Nat) (hi : i < c.n) (hl : lies c i = false) (g : List (Int × Int))
    (hw : WF c { s with gave := g, members := s.members.set i (max (voted s i) r, knows s i), late := (r, (i : Int), knows s i) :: s.late }) :
    Inv c { s with gave := g, members := s.members.set i (max (voted s i) r, knows s i), late := (r, (i : Int), knows s i) :: s.late } := by
  have hg : Grow s { s with gave := g, members := s.members.set i (max (voted s i) r, knows s i), late := (r, (i : Int), knows s i) :: s.late } := ⟨Nat.le_refl _, fun _ _ => rfl, fun _ _ _ h => h, fun x hx => List.mem_cons_of_mem _ hx⟩
  have hil : i < s.members.length := by rw [h.wf.mlen]; exact hi
  have hv : ∀ j, voted s j ≤ voted { s with gave := g, members := s.members.set i (max (voted s i) r, knows s i), late := (r, (i : Int), knows s i) :: s.late } j := by
    intro j
    unfold voted
    simp only
    by_cases e : i = j
    · subst e; rw [getD_set_eq _ _ _ hil]; simp only; omega
    · rw [getD_set_ne _ _ _ e]; exact Int.le_refl _
  have hvi : r ≤ voted { s with gave := g, members := s.members.set i (max (voted s i) r, knows s i), late := (r, (i : Int), knows s i) :: s.late } i := by
    unfold voted; simp only; rw [getD_set_eq _ _ _ hil]; simp only; omega
  have hk : ∀ j, knows { s with gave := g, members := s.members.set i (max (voted s i) r, knows s i), late := (r, (i : Int), knows s i) :: s.late } j = knows s j := by
    intro j
    unfold knows
    simp only
    by_cases e : i = j
    · subst e; rw [getD_set_eq _ _ _ hil]
    · rw [getD_set_ne _ _ _ e]
  refine ⟨hw, h.v0, h.pc, h.vn, fun j b hj hb hh => Int.le_trans (h.v2 j b hj hb hh) (hv j), h.v3, ?_, fun j b hj hb hh => by rw [hk]; exact h.v5 j b hj hb hh, ?_, ?_⟩
  · intro j b hj hb hh
    rcases h.v4 j b hj hb hh with h1 | h1
    · exact .inl h1
    · exact .inr (hg.passed h1)
  · intro j r' q' b hj hb hlt hh hr
    rcases List.mem_cons.1 hlt with e | hm
    · simp only [Prod.mk.injEq] at e
      obtain ⟨_, e2, e3⟩ := e
      have : j = i := by omega
      subst this
      rw [e3]
      exact h.v5 j b hj hb hh
    · exact h.v6 j r' q' b hj hb hm hh hr
  · intro j r' q' hj hlt
    rcases List.mem_cons.1 hlt with e | hm
    · simp only [Prod.mk.injEq] at e
      obtain ⟨e1, e2, e3⟩ := e
      have : j = i := by omega
      subst this
      rw [e1]
      exact hvi
    · exact Int.le_trans (h.v7 j r' q' hj hm) (hv j)

theorem inv_giveUp (h : Inv c s) (x : Say) (h0 : 0 ≤ x.who) (hn : x.who < c.n) : Inv c (giveUp c s x).1 := by
  have hw := wf_giveUp h.wf x h0 hn
  obtain ⟨i, hi⟩ := Int.eq_ofNat_of_zero_le h0
  unfold giveUp at hw ⊢
  rw [hi] at hw ⊢
  simp only [Int.toNat_natCast] at hw ⊢
  split
  · exact h
  rename_i g1
  rw [if_neg g1] at hw
  split
  · rename_i g2
    rw [if_pos g2] at hw
    split
    · rename_i g3
      rw [if_pos g3] at hw
      exact inv_late_liar h _ _ _ hw g2
    · exact h
  rename_i g2
  rw [if_neg g2] at hw
  split
  · exact h
  rename_i g3
  rw [if_neg g3] at hw
  exact inv_give h x.round i (by omega) (by simpa using g2) _ hw

theorem inv_learn (h : Inv c s) (i : Nat) (b : Int) (hi : i < c.n) : Inv c (learn c s i b).1 := by
  have hw := wf_learn h.wf i b hi
  unfold learn at hw ⊢
  split
  · exact h
  rename_i g1
  rw [if_neg g1] at hw
  split
  · exact h
  rename_i g2
  rw [if_neg g2] at hw
  have hil : i < s.members.length := by rw [h.wf.mlen]; exact hi
  have hv : ∀ j, voted { s with members := s.members.set i (voted s i, max (knows s i) (rnd s b.toNat)) } j = voted s j := by
    intro j
    unfold voted
    simp only
    by_cases e : i = j
    · subst e; rw [getD_set_eq _ _ _ hil]
    · rw [getD_set_ne _ _ _ e]
  have hk : ∀ j, knows s j ≤ knows { s with members := s.members.set i (voted s i, max (knows s i) (rnd s b.toNat)) } j := by
    intro j
    unfold knows
    simp only
    by_cases e : i = j
    · subst e; rw [getD_set_eq _ _ _ hil]; simp only; omega
    · rw [getD_set_ne _ _ _ e]; exact Int.le_refl _
  exact ⟨hw, h.v0, h.pc, h.vn, fun j b' hj hb hh => by rw [hv]; exact h.v2 j b' hj hb hh, h.v3, h.v4, fun j b' hj hb hh => Int.le_trans (h.v5 j b' hj hb hh) (hk j), h.v6, fun j r q hj hl => by rw [hv]; exact h.v7 j r q hj hl⟩

theorem inv_step (h : Inv c s) (x : Say) : Inv c (step c s x).1 := by
  unfold step
  split
  · exact h
  split
  · exact inv_behind h x
  split
  · exact h
  split
  · exact inv_vote h _ _ (by omega)
  split
  · exact inv_giveUp h x (by omega) (by omega)
  · exact inv_learn h _ _ (by omega)

theorem inv_run (h : Inv c s) (l : List Say) : Inv c (run c s l).1 := by
  induction l generalizing s with
  | nil => exact h
  | cons x r ih => exact ih (inv_step h x)
end
end Go.Proofs.YtkcekjpohpenkaaDoor.Mo
