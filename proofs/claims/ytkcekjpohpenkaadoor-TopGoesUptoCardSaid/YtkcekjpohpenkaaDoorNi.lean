import Derived.Test.YtkcekjpohpenkaaDoorNd
import Derived.Test.YtkcekjpohpenkaaDoorNg
/- The assembly in plain Lean: it goes on. -/
set_option linter.unusedVariables false
set_option linter.unusedSimpArgs false
namespace Go.Proofs.YtkcekjpohpenkaaDoor.Mo
section
variable {c : Cfg} {s s0 : St}

/-! ### what a script leaves: who knows what, and how far the votes are -/
structure Kin (c : Cfg) (T : Int) (s : St) : Prop where
  kn : ∀ i, i < c.n → ∃ b, b < s.blocks.length ∧ certified c s b = true ∧ knows s i = rnd s b
  vt : ∀ i, i < c.n → voted s i ≤ T
  gv : ∀ x, x ∈ s.gave → x.2 ≤ T

theorem kin_start {T : Int} (hT : 0 ≤ T) : Kin c T (Mo.start c) := by
  have hm : ∀ i, i < c.n → (Mo.start c).members.getD i (0, 0) = (0, 0) := fun i hi => by simp [Mo.start, List.getD_eq_getElem?_getD, hi]
  refine ⟨fun i hi => ⟨0, by simp [Mo.start], by simp [certified], ?_⟩, fun i hi => ?_, by simp [Mo.start]⟩
  · unfold knows; rw [hm i hi]; rfl
  · unfold voted; rw [hm i hi]; exact hT

theorem kin_grow {T : Int} {s' : St} (h : Kin c T s) (hg : Grow s s') (hm : s'.members = s.members) (hv : s'.gave = s.gave) : Kin c T s' := by
  refine ⟨fun i hi => ?_, fun i hi => ?_, fun x hx => h.gv x (hv ▸ hx)⟩
  · obtain ⟨b, hb, hc, hk⟩ := h.kn i hi
    exact ⟨b, Nat.lt_of_lt_of_le hb hg.len, hg.cert hb hc, by rw [hg.rnd hb, ← hk]; unfold knows; rw [hm]⟩
  · have := h.vt i hi
    unfold voted at this ⊢
    rw [hm]; exact this

/-- one member turned -/
theorem kin_member {T : Int} {s' : St} (h : Kin c T s) (hg : Grow s s') {i : Nat} {v k : Int} (hi : i < s.members.length) (hm : s'.members = s.members.set i (v, k)) (hv : ∀ x, x ∈ s'.gave → x.2 ≤ T) (hvT : v ≤ T)
    (hk : ∃ b, b < s.blocks.length ∧ certified c s b = true ∧ k = rnd s b) : Kin c T s' := by
  refine ⟨fun j hj => ?_, fun j hj => ?_, hv⟩
  · by_cases e : i = j
    · subst e
      obtain ⟨b, h1, h2, h3⟩ := hk
      exact ⟨b, Nat.lt_of_lt_of_le h1 hg.len, hg.cert h1 h2, by rw [hg.rnd h1, ← h3]; unfold knows; rw [hm, getD_set_eq _ _ _ hi]⟩
    · obtain ⟨b, hb, hc, hk⟩ := h.kn j hj
      exact ⟨b, Nat.lt_of_lt_of_le hb hg.len, hg.cert hb hc, by rw [hg.rnd hb, ← hk]; unfold knows; rw [hm, getD_set_ne _ _ _ e]⟩
  · by_cases e : i = j
    · subst e
      unfold voted; rw [hm, getD_set_eq _ _ _ hi]; exact hvT
    · have := h.vt j hj
      unfold voted at this ⊢
      rw [hm, getD_set_ne _ _ _ e]; exact this

theorem kin_step {T : Int} (hI : Inv c s) (h : Kin c T s) (x : Say) (hr : ∀ b, b < s.blocks.length → rnd s b ≤ T) (hx : x.kind = 3 → 1 ≤ x.round → x.round ≤ 1000 → x.round ≤ T) : Kin c T (step c s x).1 := by
  have hg := grow_step hI.wf x
  revert hg
  unfold step
  split
  · exact fun _ => h
  split
  · intro hg
    refine kin_grow h hg ?_ ?_
    · unfold behind; split; · rfl
      split; · rfl
      split <;> rfl
    · unfold behind; split; · rfl
      split; · rfl
      split <;> rfl
  split
  · exact fun _ => h
  rename_i hwho
  split
  · intro hg
    revert hg
    unfold vote
    split
    · exact fun _ => h
    split
    · exact fun _ => h
    rename_i g1 g2
    simp only [not_or, Bool.not_eq_false, isBlock_iff] at g1
    obtain ⟨⟨g4, g5⟩, g6⟩ := g1
    dsimp only
    split
    · exact fun hg => kin_grow h hg rfl rfl
    · intro hg
      refine kin_member h hg (i := x.who.toNat) (by rw [hI.wf.mlen]; omega) rfl h.gv (hr _ (by omega)) ?_
      obtain ⟨p, hp, hpi, hpc, hpr⟩ := par_cert hI (b := x.block.toNat) (by omega) (by omega)
      obtain ⟨b, hb, hc, hk⟩ := h.kn x.who.toNat (by omega)
      rw [hp, Int.toNat_natCast, hk]
      by_cases e : rnd s b ≤ rnd s p
      · exact ⟨p, by omega, hpc, by omega⟩
      · exact ⟨b, hb, hc, by omega⟩
  split
  · rename_i h3
    intro hg
    revert hg
    unfold giveUp
    split
    · exact fun _ => h
    split
    · split
      · exact fun hg => kin_grow h hg rfl rfl
      · exact fun _ => h
    split
    · exact fun _ => h
    · rename_i g1 g2 g3
      intro hg
      have hxT := hx h3 (by omega) (by omega)
      refine kin_member h hg (i := x.who.toNat) (by rw [hI.wf.mlen]; omega) rfl ?_ ?_ ?_
      · intro y hy
        rcases List.mem_cons.1 hy with rfl | hy
        · exact hxT
        · exact h.gv y hy
      · have := h.vt x.who.toNat (by omega)
        omega
      · obtain ⟨b, hb, hc, hk⟩ := h.kn x.who.toNat (by omega)
        exact ⟨b, hb, hc, hk⟩
  · intro hg
    revert hg
    unfold learn
    split
    · exact fun _ => h
    split
    · exact fun _ => h
    rename_i g1 g2
    simp only [Bool.not_eq_false, isBlock_iff] at g1
    simp only [not_or, Bool.not_eq_false, Bool.not_eq_true] at g2
    intro hg
    refine kin_member h hg (i := x.who.toNat) (by rw [hI.wf.mlen]; omega) rfl h.gv (h.vt _ (by omega)) ?_
    obtain ⟨b, hb, hc, hk⟩ := h.kn x.who.toNat (by omega)
    rw [hk]
    by_cases e : rnd s b ≤ rnd s x.block.toNat
    · exact ⟨x.block.toNat, by omega, g2.1, by omega⟩
    · exact ⟨b, hb, hc, by omega⟩

theorem kin_run {T : Int} : ∀ (l : List Say) (s : St), Inv c s → Kin c T s → (∀ b, b < (run c s l).1.blocks.length → rnd (run c s l).1 b ≤ T) → (∀ x, x ∈ l → x.kind = 3 → 1 ≤ x.round → x.round ≤ 1000 → x.round ≤ T) → Kin c T (run c s l).1
  | [], s, _, h, _, _ => h
  | x :: r, s, hI, h, hr, hx => by
    have hs : ∀ b, b < s.blocks.length → rnd s b ≤ T := by
      intro b hb
      have hg := grow_run hI.wf (x :: r)
      have := hr b (Nat.lt_of_lt_of_le hb hg.len)
      rwa [hg.rnd hb] at this
    exact kin_run r (step c s x).1 (inv_step hI x) (kin_step hI h x hs (hx x (by simp))) hr fun y hy => hx y (by simp [hy])

/-! ### all learn, and give a round up -/
structure Ph1 (c : Cfg) (s0 : St) (best : Nat) (top : Int) (k : Nat) (s : St) : Prop where
  wf : WF c s
  bl : s.blocks = s0.blocks
  vo : s.votes = s0.votes
  lt : ∀ i, i < k → gaveUp s (top + 1) (rnd s0 best) i = true
  vt : ∀ i, i < c.n → voted s i ≤ top + 1
  kn : ∀ i, i < c.n → knows s i ≤ rnd s0 best
  gv : ∀ x, x ∈ s.gave → x.2 ≤ top ∨ x.1 < k

def lates (i best : Nat) (top : Int) : List Say := [⟨4, i, best, 0, 0⟩, ⟨3, i, 0, top + 1, 0⟩]

theorem gaveUp_cons (s : St) (x : Int × Int × Int) (m : List (Int × Int)) (g : List (Int × Int)) (r h : Int) (i : Nat) (hh : gaveUp s r h i = true) : gaveUp { s with late := x :: s.late, members := m, gave := g } r h i = true := by
  unfold gaveUp at hh ⊢
  simp only [List.any_cons, hh, Bool.or_true]

theorem ph1_step {best : Nat} {top : Int} {k : Nat} (h : Ph1 c s0 best top k s) (h0 : WF c s0) (hk : k < c.n) (ht : 0 ≤ top) (ht3 : top + 3 ≤ 1000) (hb : best < s0.blocks.length) (hc : certified c s0 best = true) :
    Ph1 c s0 best top (k + 1) (run c s (lates k best top)).1 := by
  have hwf := wf_run h.wf (lates k best top)
  have hrs : ∀ b, rnd s b = rnd s0 b := fun b => by unfold rnd; rw [h.bl]
  have hcs : ∀ b, certified c s b = certified c s0 b := fun b => by unfold certified; rw [h.vo]
  have hbl : isBlock s (best : Int) = true := isBlock_iff.2 ⟨by omega, by rw [h.bl]; omega⟩
  have hrb := (h0.rnd best hb).1
  have e1 : step c s ⟨4, k, best, 0, 0⟩ = learn c s k best := by
    unfold step
    simp only
    rw [if_neg (by omega), if_neg (by omega), if_neg (by omega), if_neg (by omega), if_neg (by omega)]
    simp
  have e2 : ∀ t, step c t ⟨3, k, 0, top + 1, 0⟩ = giveUp c t ⟨3, k, 0, top + 1, 0⟩ := by
    intro t
    unfold step
    simp only
    rw [if_neg (by omega), if_neg (by omega), if_neg (by omega), if_neg (by omega), if_pos trivial]
  have hnm : ∀ g : List (Int × Int), g = s.gave → ¬ ((k : Int), top + 1) ∈ g := by
    intro g hg hm
    rw [hg] at hm
    have := h.gv _ hm
    simp only at this
    omega
  have hrun : (run c s (lates k best top)).1 = (giveUp c (learn c s k best).1 ⟨3, k, 0, top + 1, 0⟩).1 := by
    simp only [run, lates, e1, e2]
  rw [hrun] at hwf ⊢
  revert hwf
  have el : learn c s k best = if lies c k = true then (s, 6) else ({ s with members := s.members.set k (voted s k, max (knows s k) (rnd s best)) }, 0) := by
    unfold learn
    rw [hbl, if_neg (by simp), Int.toNat_natCast, hcs, hc]
    cases lies c k <;> simp
  rw [el]
  cases hl : lies c k with
  | true =>
    rw [if_pos rfl]
    have eg : giveUp c s ⟨3, k, 0, top + 1, 0⟩ = ({ s with late := (top + 1, (k : Int), 0) :: s.late }, 0) := by
      unfold giveUp
      simp only [Int.toNat_natCast]
      rw [if_neg (by omega), if_pos hl, if_pos]
      refine List.any_eq_true.2 ⟨0, List.mem_range.2 (by have := h.wf.len1; omega), ?_⟩
      rw [rnd_zero h.wf]
      simp [certified]
    rw [eg]
    intro hwf
    refine ⟨hwf, h.bl, h.vo, ?_, h.vt, h.kn, fun x hx => (h.gv x hx).imp_right (by omega)⟩
    intro i hi
    by_cases e : i = k
    · subst e
      unfold gaveUp
      simp only [List.any_cons, decide_true, Bool.true_and, Bool.or_eq_true, decide_eq_true_eq]
      exact .inl hrb
    · exact gaveUp_cons s _ s.members s.gave _ _ i (h.lt i (by omega))
  | false =>
    rw [if_neg (by simp)]
    have hkl : k < s.members.length := by rw [h.wf.mlen]; exact hk
    have hv1 := h.vt k hk
    have hk1 := h.kn k hk
    have eg : giveUp c { s with members := s.members.set k (voted s k, max (knows s k) (rnd s best)) } ⟨3, k, 0, top + 1, 0⟩ =
        ({ s with gave := ((k : Int), top + 1) :: s.gave, members := (s.members.set k (voted s k, max (knows s k) (rnd s best))).set k (max (voted s k) (top + 1), max (knows s k) (rnd s best)), late := (top + 1, (k : Int), max (knows s k) (rnd s best)) :: s.late }, 0) := by
      unfold giveUp
      simp only [Int.toNat_natCast]
      rw [if_neg (by omega), if_neg (by rw [hl]; simp), if_neg (hnm _ rfl)]
      unfold voted knows
      simp only [getD_set_eq _ _ _ hkl]
    rw [eg]
    intro hwf
    have hmx : max (knows s k) (rnd s best) = rnd s0 best := by rw [hrs]; omega
    refine ⟨hwf, h.bl, h.vo, ?_, ?_, ?_, ?_⟩
    · intro i hi
      by_cases e : i = k
      · subst e
        unfold gaveUp
        simp only [List.any_cons, decide_true, Bool.true_and, Bool.or_eq_true, decide_eq_true_eq]
        exact .inl (by rw [hmx]; exact Int.le_refl _)
      · exact gaveUp_cons s _ _ _ _ _ i (h.lt i (by omega))
    · intro i hi
      by_cases e : k = i
      · subst e
        unfold voted
        simp only [List.set_set]
        rw [getD_set_eq _ _ _ hkl]
        unfold voted at hv1
        simp only
        omega
      · have := h.vt i hi
        unfold voted at this ⊢
        simp only [List.set_set]
        rw [getD_set_ne _ _ _ e]; exact this
    · intro i hi
      by_cases e : k = i
      · subst e
        unfold knows
        simp only [List.set_set]
        rw [getD_set_eq _ _ _ hkl]
        exact Int.le_of_eq hmx
      · have := h.kn i hi
        unfold knows at this ⊢
        simp only [List.set_set]
        rw [getD_set_ne _ _ _ e]; exact this
    · intro x hx
      rcases List.mem_cons.1 hx with rfl | hx
      · exact .inr (by simp only; omega)
      · exact (h.gv x hx).imp_right (by omega)

theorem ph1_all {best : Nat} {top : Int} (h0 : WF c s0) (ht : 0 ≤ top) (ht3 : top + 3 ≤ 1000) (hb : best < s0.blocks.length) (hc : certified c s0 best = true) (hK : Kin c top s0)
    (hbest : ∀ b, b < s0.blocks.length → certified c s0 b = true → rnd s0 b ≤ rnd s0 best) : ∀ k, k ≤ c.n → Ph1 c s0 best top k (run c s0 ((List.range k).flatMap fun i => lates i best top)).1
  | 0, _ => by
    refine ⟨h0, rfl, rfl, fun i hi => by omega, fun i hi => by have := hK.vt i hi; show voted s0 i ≤ _; omega, fun i hi => ?_, fun x hx => .inl (hK.gv x hx)⟩
    obtain ⟨b, h1, h2, h3⟩ := hK.kn i hi
    show knows s0 i ≤ _
    rw [h3]
    exact hbest b h1 h2
  | k + 1, hk => by
    rw [List.range_succ, List.flatMap_append, run_append]
    simpa using ph1_step (ph1_all h0 ht ht3 hb hc hK hbest k (by omega)) h0 (by omega) ht ht3 hb hc

/-! ### all vote -/
structure Ph2 (c : Cfg) (s0 : St) (a k : Nat) (s : St) : Prop where
  wf : WF c s
  bl : s.blocks = s0.blocks
  lt : s.late = s0.late
  hs : ∀ i, has s a i = (has s0 a i || decide (i < k))
  ot : ∀ b, b ≠ a → s.votes.getD b 0 = s0.votes.getD b 0
  v1 : ∀ i, i < k → lies c i = false → voted s i = rnd s0 a
  v2 : ∀ i, k ≤ i → voted s i = voted s0 i

theorem ph2_step {a k : Nat} (h : Ph2 c s0 a k s) (hk : k < c.n) (ha0 : 0 < a) (ha : a < s0.blocks.length) (hn : has s0 a k = false)
    (hag : lies c k = false → voted s0 k < rnd s0 a ∧ (rnd s0 (par s0 a).toNat = rnd s0 a - 1 ∨ passed c s0 (rnd s0 a - 1) (rnd s0 (par s0 a).toNat) = true)) :
    Ph2 c s0 a (k + 1) (step c s ⟨2, k, a, 0, 0⟩).1 := by
  have hwf := wf_step h.wf ⟨2, k, a, 0, 0⟩
  have hrs : ∀ b, rnd s b = rnd s0 b := fun b => by unfold rnd; rw [h.bl]
  have hps : ∀ b, par s b = par s0 b := fun b => by unfold par; rw [h.bl]
  have hbl : isBlock s (a : Int) = true := isBlock_iff.2 ⟨by omega, by rw [h.bl]; omega⟩
  have hhs : (s.votes.getD a 0).testBit k = false := by
    have := h.hs k
    rw [hn] at this
    unfold has at this
    rw [this]
    simp
  have e1 : step c s ⟨2, k, a, 0, 0⟩ = vote c s k a := by
    unfold step
    simp only
    rw [if_neg (by omega), if_neg (by omega), if_neg (by omega), if_pos trivial]
    simp
  have hagr : lies c k = false → agrees c s k a = true := by
    intro hl
    obtain ⟨h1, h2⟩ := hag hl
    have hp : passed c s (rnd s0 a - 1) (rnd s0 (par s0 a).toNat) = passed c s0 (rnd s0 a - 1) (rnd s0 (par s0 a).toNat) := by unfold passed gaveUp; rw [h.lt]
    unfold agrees
    rw [hrs, hrs, hps, h.v2 k (Nat.le_refl _), hp]
    simp only [Bool.and_eq_true, Bool.or_eq_true, decide_eq_true_eq]
    exact ⟨h1, h2⟩
  have e2 : vote c s k a = if lies c k = true then ({ s with votes := s.votes.set a (s.votes.getD a 0 ||| 2 ^ k) }, 0) else ({ s with votes := s.votes.set a (s.votes.getD a 0 ||| 2 ^ k), members := s.members.set k (rnd s a, max (knows s k) (rnd s (par s a).toNat)) }, 0) := by
    unfold vote
    rw [hbl, Int.toNat_natCast, if_neg (by simp; omega), hhs, if_neg]
    rintro (hh | hh)
    · cases hh
    · rw [hagr hh.1] at hh; cases hh.2
  rw [e1, e2] at hwf ⊢
  have hal : a < s.votes.length := by rw [h.wf.vlen, h.bl]; exact ha
  have hkl : k < s.members.length := by rw [h.wf.mlen]; exact hk
  have hhas : ∀ i, ((s.votes.set a (s.votes.getD a 0 ||| 2 ^ k)).getD a 0).testBit i = (has s0 a i || decide (i < k + 1)) := by
    intro i
    have := has_or h.wf (i := k) (b := a) (b' := a) (j := i) (by rw [h.bl]; exact ha)
    rw [this, h.hs i]
    cases has s0 a i
    · simp only [decide_true, Bool.true_and, Bool.false_or]
      by_cases e : k = i
      · subst e; simp
      · simp only [e, decide_false, Bool.or_false, decide_eq_decide]; omega
    · simp
  revert hwf
  cases hl : lies c k with
  | true =>
    rw [if_pos rfl]
    intro hwf
    refine ⟨hwf, h.bl, h.lt, hhas, fun b hb => by simp only; rw [getD_set_ne _ _ _ (Ne.symm hb)]; exact h.ot b hb, fun i hi hli => ?_, fun i hi => h.v2 i (by omega)⟩
    by_cases e : i = k
    · subst e; rw [hl] at hli; cases hli
    · exact h.v1 i (by omega) hli
  | false =>
    rw [if_neg (by simp)]
    intro hwf
    refine ⟨hwf, h.bl, h.lt, hhas, fun b hb => by simp only; rw [getD_set_ne _ _ _ (Ne.symm hb)]; exact h.ot b hb, fun i hi hli => ?_, fun i hi => ?_⟩
    · by_cases e : k = i
      · subst e
        unfold voted
        simp only
        rw [getD_set_eq _ _ _ hkl]
        exact hrs a
      · have := h.v1 i (by omega) hli
        unfold voted at this ⊢
        simp only
        rw [getD_set_ne _ _ _ e]; exact this
    · have := h.v2 i (by omega)
      unfold voted at this ⊢
      simp only
      rw [getD_set_ne _ _ _ (by omega)]; exact this

def ballots (a k : Nat) : List Say := (List.range k).map fun (i : Nat) => ⟨2, (i : Int), a, 0, 0⟩

theorem ph2_all {a : Nat} (h0 : WF c s0) (ha0 : 0 < a) (ha : a < s0.blocks.length) (hn : ∀ i, has s0 a i = false)
    (hag : ∀ i, i < c.n → lies c i = false → voted s0 i < rnd s0 a ∧ (rnd s0 (par s0 a).toNat = rnd s0 a - 1 ∨ passed c s0 (rnd s0 a - 1) (rnd s0 (par s0 a).toNat) = true)) :
    ∀ k, k ≤ c.n → Ph2 c s0 a k (run c s0 (ballots a k)).1
  | 0, _ => ⟨h0, rfl, rfl, fun i => by simp [ballots, run], fun _ _ => rfl, fun i hi => by omega, fun _ _ => rfl⟩
  | k + 1, hk => by
    unfold ballots
    rw [List.range_succ, List.map_append, run_append]
    exact ph2_step (ph2_all h0 ha0 ha hn hag k (by omega)) (by omega) ha0 ha (hn k) (hag k (by omega))

theorem ph2_cert {a : Nat} (h : Ph2 c s0 a c.n s) : certified c s a = true := by
  unfold certified
  simp only [Bool.or_eq_true, beq_iff_eq, decide_eq_true_eq]
  refine .inr (Nat.le_trans h.wf.need ?_)
  have h1 := countP_lt c.n h.wf.n7
  rw [← h1]
  unfold pop
  refine List.countP_mono_left fun i _ hi => ?_
  have := h.hs i
  unfold has at this
  rw [this, hi]
  simp

/-! ### a block more -/
theorem behind_ok {p : Nat} {r : Int} (hw : WF c s) (hp : p < s.blocks.length) (hr : rnd s p < r) (hr2 : r ≤ 1000) (hc : certified c s p = true) (hl : s.blocks.length < 40) :
    (step c s ⟨1, 0, p, r, 0⟩).1 = { s with blocks := s.blocks ++ [((p : Int), r)], votes := s.votes ++ [0] } := by
  unfold step
  simp only
  rw [if_neg (by omega), if_pos trivial]
  unfold behind
  simp only [Int.toNat_natCast]
  have hb : isBlock s (p : Int) = true := isBlock_iff.2 ⟨by omega, by omega⟩
  rw [hb, hc, if_neg (by simp; omega), if_neg (by simp), if_neg (by omega)]

/-- what all say in the end -/
def goesScript (n best a : Nat) (top : Int) : List Say :=
  ((List.range n).flatMap fun i => lates i best top) ++ ([⟨1, 0, best, top + 2, 0⟩] ++ (ballots a n ++ ([⟨1, 0, a, top + 3, 0⟩] ++ ballots (a + 1) n)))

theorem rnd_snoc (bl : List (Int × Int)) (vs : List Nat) (m : List (Int × Int)) (lt : List (Int × Int × Int)) (gv : List (Int × Int)) (x : Int × Int) (b : Nat) :
    rnd { blocks := bl ++ [x], votes := vs, members := m, late := lt, gave := gv } b = if b = bl.length then x.2 else (bl.getD b (0, 0)).2 := by
  unfold rnd
  simp only
  by_cases e : b = bl.length
  · subst e; rw [getD_snoc_eq, if_pos rfl]
  · rw [if_neg e]
    by_cases hb : b < bl.length
    · rw [getD_snoc_lt _ _ _ hb]
    · rw [getD_ge _ _ (by simp; omega), getD_ge _ _ (by omega)]

theorem goes {best : Nat} {top : Int} (h0 : WF c s0) (ht : 0 ≤ top) (ht3 : top + 3 ≤ 1000) (hb : best < s0.blocks.length) (hc : certified c s0 best = true) (hK : Kin c top s0)
    (hbest : ∀ b, b < s0.blocks.length → certified c s0 b = true → rnd s0 b ≤ rnd s0 best) (hrt : rnd s0 best ≤ top) (h38 : s0.blocks.length + 2 ≤ 40) :
    ∃ t, (run c s0 (goesScript c.n best s0.blocks.length top)).1 = t ∧ t.blocks = s0.blocks ++ [((best : Int), top + 2), ((s0.blocks.length : Int), top + 3)] ∧
      certified c t s0.blocks.length = true ∧ certified c t (s0.blocks.length + 1) = true := by
  refine ⟨_, rfl, ?_⟩
  unfold goesScript
  simp only [run_append]
  have h1 := ph1_all h0 ht ht3 hb hc hK hbest c.n (Nat.le_refl _)
  generalize (run c s0 ((List.range c.n).flatMap fun i => lates i best top)).1 = s1 at h1
  -- the first block
  have hr1 : rnd s1 best = rnd s0 best := by unfold rnd; rw [h1.bl]
  have hc1 : certified c s1 best = true := by rw [← hc]; unfold certified; rw [h1.vo]
  have hl1 : s1.blocks.length = s0.blocks.length := by rw [h1.bl]
  have e2 : (run c s1 [⟨1, 0, best, top + 2, 0⟩]).1 = { s1 with blocks := s1.blocks ++ [((best : Int), top + 2)], votes := s1.votes ++ [0] } :=
    behind_ok h1.wf (by omega) (by omega) (by omega) hc1 (by omega)
  have w2 := wf_run h1.wf [⟨1, 0, best, top + 2, 0⟩]
  rw [e2] at w2 ⊢
  have hb2 : { s1 with blocks := s1.blocks ++ [((best : Int), top + 2)], votes := s1.votes ++ [0] }.blocks = s0.blocks ++ [((best : Int), top + 2)] := by rw [← h1.bl]
  have hm2 : { s1 with blocks := s1.blocks ++ [((best : Int), top + 2)], votes := s1.votes ++ [0] }.members = s1.members := rfl
  have hlt2 : { s1 with blocks := s1.blocks ++ [((best : Int), top + 2)], votes := s1.votes ++ [0] }.late = s1.late := rfl
  have hn2 : ∀ i, has { s1 with blocks := s1.blocks ++ [((best : Int), top + 2)], votes := s1.votes ++ [0] } s0.blocks.length i = false := by
    intro i
    unfold has
    simp only
    rw [← hl1, ← h1.wf.vlen, getD_snoc_eq]
    simp
  generalize ({ s1 with blocks := s1.blocks ++ [((best : Int), top + 2)], votes := s1.votes ++ [0] } : St) = s2 at w2 hb2 hm2 hlt2 hn2 ⊢
  have hr2 : rnd s2 s0.blocks.length = top + 2 := by unfold rnd; rw [hb2, getD_snoc_eq]
  have hp2 : par s2 s0.blocks.length = best := by unfold par; rw [hb2, getD_snoc_eq]
  have hrb2 : rnd s2 best = rnd s0 best := by unfold rnd; rw [hb2, getD_snoc_lt _ _ _ hb]
  have hl2 : s2.blocks.length = s0.blocks.length + 1 := by rw [hb2]; simp
  have hpass : passed c s2 (top + 1) (rnd s0 best) = true := by
    unfold passed
    simp only [decide_eq_true_eq]
    refine Nat.le_trans h0.need ?_
    have hcl := countP_lt c.n h0.n7
    rw [← hcl]
    refine List.countP_mono_left fun i _ hi => ?_
    have := h1.lt i (by simpa using hi)
    unfold gaveUp at this ⊢
    rw [hlt2]; exact this
  have h3 := ph2_all (a := s0.blocks.length) w2 (by have := h0.len1; omega) (by omega) hn2 (fun i hi hl => by
    rw [hr2, hp2, Int.toNat_natCast, hrb2]
    refine ⟨?_, .inr ?_⟩
    · have := h1.vt i hi
      have e : voted s2 i = voted s1 i := by unfold voted; rw [hm2]
      omega
    · rw [show top + 2 - 1 = top + 1 by omega]
      exact hpass) c.n (Nat.le_refl _)
  generalize (run c s2 (ballots s0.blocks.length c.n)).1 = s3 at h3
  -- the second block
  have hb3 := h3.bl
  rw [hb2] at hb3
  have hc3 := ph2_cert h3
  have hl3 : s3.blocks.length = s0.blocks.length + 1 := by rw [hb3]; simp
  have hr3 : rnd s3 s0.blocks.length = top + 2 := by unfold rnd; rw [hb3, getD_snoc_eq]
  have e4 : (run c s3 [⟨1, 0, s0.blocks.length, top + 3, 0⟩]).1 = { s3 with blocks := s3.blocks ++ [((s0.blocks.length : Int), top + 3)], votes := s3.votes ++ [0] } :=
    behind_ok h3.wf (by omega) (by omega) (by omega) hc3 (by omega)
  have w4 := wf_run h3.wf [⟨1, 0, s0.blocks.length, top + 3, 0⟩]
  have g4 := grow_run h3.wf [⟨1, 0, s0.blocks.length, top + 3, 0⟩]
  have hc4 := g4.cert (b := s0.blocks.length) (by omega) hc3
  rw [e4] at w4 hc4 ⊢
  have hb4 : { s3 with blocks := s3.blocks ++ [((s0.blocks.length : Int), top + 3)], votes := s3.votes ++ [0] }.blocks = s3.blocks ++ [((s0.blocks.length : Int), top + 3)] := rfl
  have hm4 : { s3 with blocks := s3.blocks ++ [((s0.blocks.length : Int), top + 3)], votes := s3.votes ++ [0] }.members = s3.members := rfl
  have hn4 : ∀ i, has { s3 with blocks := s3.blocks ++ [((s0.blocks.length : Int), top + 3)], votes := s3.votes ++ [0] } (s0.blocks.length + 1) i = false := by
    intro i
    unfold has
    simp only
    rw [← hl3, ← h3.wf.vlen, getD_snoc_eq]
    simp
  generalize ({ s3 with blocks := s3.blocks ++ [((s0.blocks.length : Int), top + 3)], votes := s3.votes ++ [0] } : St) = s4 at w4 hb4 hm4 hn4 hc4 ⊢
  have hr4 : rnd s4 (s0.blocks.length + 1) = top + 3 := by unfold rnd; rw [hb4, ← hl3, getD_snoc_eq]
  have hp4 : par s4 (s0.blocks.length + 1) = s0.blocks.length := by unfold par; rw [hb4, ← hl3, getD_snoc_eq]
  have hrb4 : rnd s4 s0.blocks.length = top + 2 := by rw [← hr3]; unfold rnd; rw [hb4, getD_snoc_lt _ _ _ (by omega)]
  have hl4 : s4.blocks.length = s0.blocks.length + 2 := by rw [hb4]; simp; omega
  have h5 := ph2_all (a := s0.blocks.length + 1) w4 (by omega) (by omega) hn4 (fun i hi hl => by
    rw [hr4, hp4, Int.toNat_natCast, hrb4]
    refine ⟨?_, .inl (by omega)⟩
    have := h3.v1 i hi hl
    rw [hr2] at this
    have e : voted s4 i = voted s3 i := by unfold voted; rw [hm4]
    omega) c.n (Nat.le_refl _)
  generalize (run c s4 (ballots (s0.blocks.length + 1) c.n)).1 = s5 at h5
  refine ⟨?_, ?_, ph2_cert h5⟩
  · rw [h5.bl, hb4, hb3]; simp
  · rw [← hc4]
    unfold certified
    rw [h5.ot _ (by omega)]

/-- both of them, and what they stand on, are decided -/
theorem goes_decided {best : Nat} {top : Int} {t : St} (hw : WF c t) (hb : best < s0.blocks.length) (ht : t.blocks = s0.blocks ++ [((best : Int), top + 2), ((s0.blocks.length : Int), top + 3)])
    (c1 : certified c t s0.blocks.length = true) (c2 : certified c t (s0.blocks.length + 1) = true) :
    (decided c t).getD s0.blocks.length false = true ∧ (decided c t).getD best false = true := by
  have hl : t.blocks.length = s0.blocks.length + 2 := by rw [ht]; simp
  have hg1 : t.blocks.getD s0.blocks.length (0, 0) = ((best : Int), top + 2) := by rw [ht]; simp [List.getD_eq_getElem?_getD]
  have hg2 : t.blocks.getD (s0.blocks.length + 1) (0, 0) = ((s0.blocks.length : Int), top + 3) := by rw [ht]; simp [List.getD_eq_getElem?_getD]
  have hp : par t (s0.blocks.length + 1) = s0.blocks.length := by unfold par; rw [hg2]
  have hp1 : par t s0.blocks.length = best := by unfold par; rw [hg1]
  have hr : rnd t (s0.blocks.length + 1) = rnd t s0.blocks.length + 1 := by unfold rnd; rw [hg1, hg2]; simp only; omega
  have key : ∀ p, p ∈ upsFull t.blocks s0.blocks.length → (decided c t).getD p false = true := fun p hp' =>
    (decided_iff hw p).2 ⟨s0.blocks.length + 1, s0.blocks.length, by omega, by omega, by omega, hp, c2, c1, hr, hp'⟩
  exact ⟨key _ (mem_up hw (by omega)), key _ (mem_up_par hw (by omega) hp1 (mem_up hw (by omega)))⟩
end
end Go.Proofs.YtkcekjpohpenkaaDoor.Mo
