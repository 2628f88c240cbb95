import Derived.Test.YtkcekjpohpenkaaDoorMw
/- The assembly in plain Lean: what the votes and the rounds given up say. -/
set_option linter.unusedVariables false
set_option linter.unusedSimpArgs false
namespace Go.Proofs.YtkcekjpohpenkaaDoor.Mo

theorem pop_mono {x y : Nat} (h : ∀ i, x.testBit i = true → y.testBit i = true) : pop x ≤ pop y := by
  unfold pop
  exact List.countP_mono_left fun i _ hi => h i hi

def has (s : St) (b i : Nat) : Bool := (s.votes.getD b 0).testBit i

/-- s' is s, and more -/
structure Grow (s s' : St) : Prop where
  len : s.blocks.length ≤ s'.blocks.length
  blk : ∀ b, b < s.blocks.length → s'.blocks.getD b (0, 0) = s.blocks.getD b (0, 0)
  votes : ∀ b i, b < s.blocks.length → has s b i = true → has s' b i = true
  late : ∀ x, x ∈ s.late → x ∈ s'.late

theorem Grow.refl (s : St) : Grow s s := ⟨Nat.le_refl _, fun _ _ => rfl, fun _ _ _ h => h, fun _ h => h⟩
theorem Grow.trans {a b c : St} (h : Grow a b) (k : Grow b c) : Grow a c :=
  ⟨Nat.le_trans h.len k.len, fun i hi => (k.blk i (Nat.lt_of_lt_of_le hi h.len)).trans (h.blk i hi), fun i j hi hh => k.votes i j (Nat.lt_of_lt_of_le hi h.len) (h.votes i j hi hh), fun x hx => k.late x (h.late x hx)⟩

section
variable {c : Cfg} {s s' : St}
theorem Grow.rnd (h : Grow s s') {b : Nat} (hb : b < s.blocks.length) : Mo.rnd s' b = Mo.rnd s b := by unfold Mo.rnd; rw [h.blk b hb]
theorem Grow.par (h : Grow s s') {b : Nat} (hb : b < s.blocks.length) : Mo.par s' b = Mo.par s b := by unfold Mo.par; rw [h.blk b hb]
theorem Grow.cert (h : Grow s s') {b : Nat} (hb : b < s.blocks.length) (hc : certified c s b = true) : certified c s' b = true := by
  unfold certified at hc ⊢
  simp only [Bool.or_eq_true, beq_iff_eq, decide_eq_true_eq] at hc ⊢
  rcases hc with hc | hc
  · exact .inl hc
  · exact .inr (Nat.le_trans hc (pop_mono fun i hi => h.votes b i hb hi))
theorem Grow.gaveUp (h : Grow s s') {r q : Int} {i : Nat} (hg : Mo.gaveUp s r q i = true) : Mo.gaveUp s' r q i = true := by
  unfold Mo.gaveUp at hg ⊢
  obtain ⟨x, hx, hh⟩ := List.any_eq_true.1 hg
  exact List.any_eq_true.2 ⟨x, h.late x hx, hh⟩
theorem Grow.passed (h : Grow s s') {r q : Int} (hp : Mo.passed c s r q = true) : Mo.passed c s' r q = true := by
  unfold Mo.passed at hp ⊢
  simp only [decide_eq_true_eq] at hp ⊢
  exact Nat.le_trans hp (List.countP_mono_left fun i _ hi => h.gaveUp hi)

/-! ### each step grows -/
theorem grow_behind (h : WF c s) (x : Say) : Grow s (behind c s x).1 := by
  unfold behind
  split
  · exact .refl s
  split
  · exact .refl s
  split
  · exact .refl s
  refine ⟨by simp, fun b hb => getD_snoc_lt _ _ _ hb, fun b i hb hh => ?_, fun x hx => hx⟩
  unfold has at hh ⊢
  simp only
  rw [getD_snoc_lt _ _ _ (by rw [h.vlen]; exact hb)]
  exact hh

theorem has_or (h : WF c s) {b i b' j : Nat} (hb : b < s.blocks.length) :
    ((s.votes.set b (s.votes.getD b 0 ||| 2 ^ i)).getD b' 0).testBit j = (has s b' j || (decide (b = b') && decide (i = j))) := by
  unfold has
  by_cases e : b = b'
  · subst e
    rw [getD_set_eq _ _ _ (by rw [h.vlen]; exact hb), Nat.testBit_or, Nat.testBit_two_pow]
    simp
  · rw [getD_set_ne _ _ _ e]
    simp [e]

theorem grow_votes (h : WF c s) {b i : Nat} (hb : b < s.blocks.length) (m : List (Int × Int)) : Grow s { s with votes := s.votes.set b (s.votes.getD b 0 ||| 2 ^ i), members := m } :=
  ⟨Nat.le_refl _, fun _ _ => rfl, fun b' j _ hh => by
    have := has_or h (i := i) (b' := b') (j := j) hb
    unfold has at hh ⊢
    simp only
    rw [this]
    unfold has
    rw [hh]
    rfl, fun x hx => hx⟩

theorem grow_vote (h : WF c s) (i : Nat) (b : Int) : Grow s (vote c s i b).1 := by
  unfold vote
  split
  · exact .refl s
  split
  · exact .refl s
  rename_i g1 g2
  simp only [not_or, Bool.not_eq_false, isBlock_iff] at g1
  obtain ⟨⟨g4, g5⟩, g6⟩ := g1
  dsimp only
  split
  · exact grow_votes h (by omega) s.members
  · exact grow_votes h (by omega) _

theorem grow_giveUp (x : Say) : Grow s (giveUp c s x).1 := by
  unfold giveUp
  split
  · exact .refl s
  split
  · split
    · exact ⟨Nat.le_refl _, fun _ _ => rfl, fun _ _ _ h => h, fun x hx => List.mem_cons_of_mem _ hx⟩
    · exact .refl s
  split
  · exact .refl s
  · exact ⟨Nat.le_refl _, fun _ _ => rfl, fun _ _ _ h => h, fun x hx => List.mem_cons_of_mem _ hx⟩

theorem grow_learn (i : Nat) (b : Int) : Grow s (learn c s i b).1 := by
  unfold learn
  split
  · exact .refl s
  split
  · exact .refl s
  · exact ⟨Nat.le_refl _, fun _ _ => rfl, fun _ _ _ h => h, fun x hx => hx⟩

theorem grow_step (h : WF c s) (x : Say) : Grow s (step c s x).1 := by
  unfold step
  split
  · exact .refl s
  split
  · exact grow_behind h x
  split
  · exact .refl s
  split
  · exact grow_vote h _ _
  split
  · exact grow_giveUp x
  · exact grow_learn _ _

theorem grow_run (h : WF c s) (l : List Say) : Grow s (run c s l).1 := by
  induction l generalizing s with
  | nil => exact .refl s
  | cons x r ih => exact (grow_step h x).trans (ih (wf_step h x))

/-! ### what holds of all states -/
structure Inv (c : Cfg) (s : St) : Prop where
  wf : WF c s
  v0 : ∀ i, has s 0 i = false
  pc : ∀ b, 0 < b → b < s.blocks.length → certified c s (par s b).toNat = true
  vn : ∀ b i, has s b i = true → i < c.n
  v2 : ∀ i b, lies c i = false → b < s.blocks.length → has s b i = true → rnd s b ≤ voted s i
  v3 : ∀ i a b, lies c i = false → a < s.blocks.length → b < s.blocks.length → has s a i = true → has s b i = true → rnd s a = rnd s b → a = b
  v4 : ∀ i b, lies c i = false → b < s.blocks.length → has s b i = true → rnd s (par s b).toNat = rnd s b - 1 ∨ passed c s (rnd s b - 1) (rnd s (par s b).toNat) = true
  v5 : ∀ i b, lies c i = false → b < s.blocks.length → has s b i = true → rnd s (par s b).toNat ≤ knows s i
  v6 : ∀ (i : Nat) r h b, lies c i = false → b < s.blocks.length → (r, (i : Int), h) ∈ s.late → has s b i = true → rnd s b ≤ r → rnd s (par s b).toNat ≤ h
  v7 : ∀ (i : Nat) r h, lies c i = false → (r, (i : Int), h) ∈ s.late → r ≤ voted s i

theorem inv_start (h1 : 1 ≤ c.n) (h7 : c.n ≤ 7) (hn : c.need ≤ c.n) (hl : c.liars < 2 ^ c.n) : Inv c (start c) := by
  have hv : ∀ b i, has (Mo.start c) b i = false := by
    intro b i
    have : (Mo.start c).votes.getD b 0 = 0 := by
      cases b with
      | zero => rfl
      | succ b => exact getD_ge _ _ (by simp [Mo.start])
    unfold has
    rw [this]
    simp
  refine ⟨WF.start h1 h7 hn hl, hv 0, ?_, ?_, ?_, ?_, ?_, ?_, ?_, ?_⟩
  · intro b h0 hb; simp [Mo.start] at hb; omega
  · intro b i h; rw [hv] at h; cases h
  · intro i b _ _ h; rw [hv] at h; cases h
  · intro i a b _ _ _ h; rw [hv] at h; cases h
  · intro i b _ _ h; rw [hv] at h; cases h
  · intro i b _ _ h; rw [hv] at h; cases h
  · intro i r h b _ _ hl; simp [Mo.start] at hl
  · intro i r h _ hl; simp [Mo.start] at hl
end
end Go.Proofs.YtkcekjpohpenkaaDoor.Mo
