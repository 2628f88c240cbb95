/- The ledger in plain Lean; no program in sight. -/
set_option linter.unusedVariables false
set_option linter.unusedSimpArgs false
namespace Go.Proofs.YtkcekjpohpenkaaDoor.Lg

structure Pay where
  src : Int
  dst : Int
  ser : Int
  n : Int

/-- an account: what it has, and its serial number -/
abbrev Acc := Int × Int

def isAcc (l : List Acc) (i : Int) : Bool := decide (0 ≤ i) && decide (i < l.length)
def moved (l : List Acc) (a b : Nat) (n : Int) : List Acc :=
  let l1 := l.set a ((l.getD a (0, 0)).1 - n, (l.getD a (0, 0)).2)
  let l2 := l1.set b ((l1.getD b (0, 0)).1 + n, (l1.getD b (0, 0)).2)
  l2.set a ((l2.getD a (0, 0)).1, (l2.getD a (0, 0)).2 + 1)
def code (l : List Acc) (p : Pay) : Int :=
  if isAcc l p.src = false ∨ isAcc l p.dst = false ∨ p.n < 1 then 2
  else if p.ser ≠ (l.getD p.src.toNat (0, 0)).2 then 3
  else if (l.getD p.src.toNat (0, 0)).1 < p.n then 5
  else if p.src ≠ p.dst ∧ 1099511627776 - p.n < (l.getD p.dst.toNat (0, 0)).1 then 7
  else 0
def step (l : List Acc) (p : Pay) : List Acc := if code l p = 0 then moved l p.src.toNat p.dst.toNat p.n else l
def run : List Acc → List Pay → List Acc × List Int
  | l, [] => (l, [])
  | l, p :: r => let q := run (step l p) r; (q.1, code l p :: q.2)

/-- what holds of the accounts behind k pays -/
structure Ok (l : List Acc) (k : Nat) : Prop where
  n0 : ∀ i, 0 ≤ (l.getD i (0, 0)).1
  n1 : ∀ i, (l.getD i (0, 0)).1 ≤ 1099511627776
  s0 : ∀ i, 0 ≤ (l.getD i (0, 0)).2
  s1 : ∀ i, (l.getD i (0, 0)).2 ≤ k

theorem getD_set {l : List Acc} {a : Nat} {x : Acc} (i : Nat) (ha : a < l.length) : (l.set a x).getD i (0, 0) = if a = i then x else l.getD i (0, 0) := by
  by_cases e : a = i
  · subst e
    rw [if_pos rfl]
    simp [List.getD_eq_getElem?_getD, ha]
  · rw [if_neg e]
    simp [List.getD_eq_getElem?_getD, List.getElem?_set_ne e]

theorem isAcc_iff {l : List Acc} {i : Int} : isAcc l i = true ↔ 0 ≤ i ∧ i < l.length := by simp [isAcc]

theorem moved_at {l : List Acc} {a b : Nat} {n : Int} (ha : a < l.length) (hb : b < l.length) (i : Nat) :
    (moved l a b n).getD i (0, 0) = ((l.getD i (0, 0)).1 - (if a = i then n else 0) + (if b = i then n else 0), (l.getD i (0, 0)).2 + (if a = i then 1 else 0)) := by
  unfold moved
  simp only
  rw [getD_set i (by simpa using ha), getD_set a (by simpa using hb), getD_set i (by simpa using hb), getD_set b ha, getD_set a ha, getD_set i ha]
  by_cases h1 : a = i
  · subst h1
    by_cases h2 : b = a
    · subst h2; simp
    · have : ¬ a = b := fun e => h2 e.symm
      simp [h2, this]
  · by_cases h2 : b = i
    · subst h2
      simp [h1]
    · simp [h1, h2]
theorem moved_length (l : List Acc) (a b : Nat) (n : Int) : (moved l a b n).length = l.length := by simp [moved]
theorem step_length (l : List Acc) (p : Pay) : (step l p).length = l.length := by
  unfold step; split
  · exact moved_length _ _ _ _
  · rfl

/-- a pay that is made -/
theorem code_zero {l : List Acc} {p : Pay} (h : code l p = 0) : ∃ a b : Nat, p.src = a ∧ p.dst = b ∧ a < l.length ∧ b < l.length ∧ 1 ≤ p.n ∧ p.ser = (l.getD a (0, 0)).2 ∧ p.n ≤ (l.getD a (0, 0)).1 ∧ (a ≠ b → (l.getD b (0, 0)).1 ≤ 1099511627776 - p.n) := by
  unfold code at h
  split at h
  · cases h
  rename_i g1
  simp only [not_or, Bool.not_eq_false, isAcc_iff] at g1
  obtain ⟨⟨a0, a1⟩, ⟨b0, b1⟩, g1⟩ := g1
  split at h
  · cases h
  rename_i g2
  split at h
  · cases h
  rename_i g3
  split at h
  · cases h
  rename_i g4
  obtain ⟨a, ha⟩ := Int.eq_ofNat_of_zero_le a0
  obtain ⟨b, hb⟩ := Int.eq_ofNat_of_zero_le b0
  rw [ha] at g2 g3 g4 a1
  rw [hb] at g4 b1
  simp only [Int.toNat_natCast] at g2 g3 g4
  refine ⟨a, b, ha, hb, by omega, by omega, by omega, ?_, by omega, fun hab => ?_⟩
  · exact Classical.not_not.1 g2
  · rcases Int.lt_or_le (1099511627776 - p.n) ((l.getD b (0, 0)).1) with h | h
    · exact absurd ⟨by omega, h⟩ g4
    · exact h

theorem Ok.step {l : List Acc} {k : Nat} (h : Ok l k) (p : Pay) : Ok (Lg.step l p) (k + 1) := by
  unfold Lg.step
  split
  · rename_i hc
    obtain ⟨a, b, hs, hd, ha, hb, hn, hser, h5, h7⟩ := code_zero hc
    rw [hs, hd]
    simp only [Int.toNat_natCast]
    have key : ∀ i, (moved l a b p.n).getD i (0, 0) = _ := moved_at ha hb
    refine ⟨fun i => ?_, fun i => ?_, fun i => ?_, fun i => ?_⟩
    all_goals rw [key i]
    all_goals have n0 := h.n0 i
    all_goals have n1 := h.n1 i
    all_goals have s0 := h.s0 i
    all_goals have s1 := h.s1 i
    all_goals have h5' : a = i → p.n ≤ (l.getD i (0, 0)).1 := fun e => e ▸ h5
    all_goals have h7' : a ≠ b → b = i → (l.getD i (0, 0)).1 ≤ 1099511627776 - p.n := fun e e' => e' ▸ h7 e
    all_goals simp only
    · split <;> split <;> omega
    · split <;> split <;> omega
    · split <;> omega
    · split <;> omega
  · exact ⟨h.n0, h.n1, h.s0, fun i => by have := h.s1 i; omega⟩

theorem Ok.start {m : List Int} (h : ∀ x ∈ m, 0 ≤ x ∧ x ≤ 1099511627776) : Ok (m.map fun x => (x, 0)) 0 := by
  have key : ∀ i, ∃ x, ((m.map fun x => ((x, 0) : Acc)).getD i (0, 0)) = (x, 0) ∧ 0 ≤ x ∧ x ≤ 1099511627776 := by
    intro i
    by_cases hi : i < m.length
    · refine ⟨m[i], by simp [List.getD_eq_getElem?_getD, hi], h _ (List.getElem_mem hi)⟩
    · exact ⟨0, by simp [List.getD_eq_getElem?_getD, hi], by omega, by omega⟩
  refine ⟨fun i => ?_, fun i => ?_, fun i => ?_, fun i => ?_⟩
  all_goals obtain ⟨x, e, h1, h2⟩ := key i
  all_goals rw [e]
  all_goals simp only
  all_goals omega

theorem run_length : ∀ (l : List Acc) (ps : List Pay), (run l ps).1.length = l.length ∧ (run l ps).2.length = ps.length
  | l, [] => ⟨rfl, rfl⟩
  | l, p :: r => by
    obtain ⟨h1, h2⟩ := run_length (step l p) r
    exact ⟨by show (run (step l p) r).1.length = _; rw [h1, step_length], by simp [run, h2]⟩
theorem run_snoc (l : List Acc) (p : Pay) : ∀ ps : List Pay, run l (ps ++ [p]) = (step (run l ps).1 p, (run l ps).2 ++ [code (run l ps).1 p]) := by
  intro ps
  induction ps generalizing l with
  | nil => rfl
  | cons q r ih => simp only [List.cons_append, run, ih]
theorem Ok.run {l : List Acc} {k : Nat} (h : Ok l k) : ∀ ps : List Pay, Ok (Lg.run l ps).1 (k + ps.length) := by
  intro ps
  induction ps generalizing l k with
  | nil => exact h
  | cons p r ih =>
    have := ih (h.step p)
    rw [show k + 1 + r.length = k + (p :: r).length by simp; omega] at this
    exact this

/-! ### the laws -/
def total : List Acc → Int
  | [] => 0
  | x :: r => x.1 + total r
theorem total_set : ∀ (l : List Acc) (a : Nat) (x : Acc), a < l.length → total (l.set a x) = total l - (l.getD a (0, 0)).1 + x.1
  | [], a, x, h => by simp at h
  | y :: r, 0, x, h => by show x.1 + total r = y.1 + total r - y.1 + x.1; omega
  | y :: r, a + 1, x, h => by
    have := total_set r a x (by simpa using h)
    simp only [List.set_cons_succ, total, this, List.getD_cons_succ]
    omega
theorem total_moved {l : List Acc} {a b : Nat} (n : Int) (ha : a < l.length) (hb : b < l.length) : total (moved l a b n) = total l := by
  unfold moved
  simp only
  rw [total_set _ _ _ (by simpa using ha), total_set _ _ _ (by simpa using hb), total_set _ _ _ ha]
  simp only
  omega
theorem total_step (l : List Acc) (p : Pay) : total (step l p) = total l := by
  unfold step
  split
  · rename_i hc
    obtain ⟨a, b, hs, hd, ha, hb, _⟩ := code_zero hc
    rw [hs, hd]
    simp only [Int.toNat_natCast]
    exact total_moved p.n ha hb
  · rfl
theorem total_run : ∀ (l : List Acc) (ps : List Pay), total (run l ps).1 = total l
  | l, [] => rfl
  | l, p :: r => by show total (run (step l p) r).1 = _; rw [total_run, total_step]

/-- an account's serial number never falls -/
theorem ser_step (l : List Acc) (p : Pay) (i : Nat) : (l.getD i (0, 0)).2 ≤ ((step l p).getD i (0, 0)).2 := by
  unfold step
  split
  · rename_i hc
    obtain ⟨a, b, hs, hd, ha, hb, _⟩ := code_zero hc
    rw [hs, hd]
    simp only [Int.toNat_natCast]
    rw [moved_at ha hb]
    simp only
    split <;> omega
  · exact Int.le_refl _
theorem ser_run (i : Nat) : ∀ (ps : List Pay) (l : List Acc), (l.getD i (0, 0)).2 ≤ ((run l ps).1.getD i (0, 0)).2
  | [], l => Int.le_refl _
  | p :: r, l => Int.le_trans (ser_step l p i) (ser_run i r (step l p))
/-- a pay that is made has a serial number that its account had, and it has a greater one -/
theorem ser_made {l : List Acc} {p : Pay} (h : code l p = 0) : ∃ a : Nat, p.src = a ∧ p.ser = (l.getD a (0, 0)).2 ∧ ((step l p).getD a (0, 0)).2 = (l.getD a (0, 0)).2 + 1 := by
  obtain ⟨a, b, hs, hd, ha, hb, hn, hser, _⟩ := code_zero h
  refine ⟨a, hs, hser, ?_⟩
  unfold step
  rw [if_pos h, hs, hd]
  simp only [Int.toNat_natCast]
  rw [moved_at ha hb]
  simp
/-- of the pays that come, none that is made has a serial number below what its account has now -/
theorem ser_above : ∀ (ps : List Pay) (l : List Acc) (i : Nat) (p : Pay), ps[i]? = some p → (run l ps).2[i]? = some 0 → ∃ a : Nat, p.src = a ∧ (l.getD a (0, 0)).2 ≤ p.ser
  | [], l, i, p, h, _ => by simp at h
  | q :: r, l, 0, p, h, hc => by
    simp at h
    subst h
    have hc' : code l q = 0 := by simpa [run] using hc
    obtain ⟨a, h1, h2, _⟩ := ser_made hc'
    exact ⟨a, h1, by omega⟩
  | q :: r, l, i + 1, p, h, hc => by
    obtain ⟨a, h1, h2⟩ := ser_above r (step l q) i p (by simpa using h) (by simpa [run] using hc)
    exact ⟨a, h1, Int.le_trans (ser_step l q a) h2⟩
/-- no pay is made twice -/
theorem once : ∀ (ps : List Pay) (l : List Acc) (i j : Nat) (p q : Pay), j < i → ps[i]? = some p → ps[j]? = some q → (run l ps).2[i]? = some 0 → (run l ps).2[j]? = some 0 → p.src = q.src → p.ser = q.ser → False
  | [], l, i, j, p, q, _, h, _, _, _, _, _ => by simp at h
  | x :: r, l, 0, j, p, q, hj, _, _, _, _, _, _ => by omega
  | x :: r, l, i + 1, 0, p, q, _, hp, hq, cp, cq, hs, hr => by
    simp at hq
    subst hq
    have hc' : code l x = 0 := by simpa [run] using cq
    obtain ⟨a, h1, h2, h3⟩ := ser_made hc'
    obtain ⟨b, h4, h5⟩ := ser_above r (step l x) i p (by simpa using hp) (by simpa [run] using cp)
    have hab : a = b := by rw [hs] at h4; omega
    subst hab
    omega
  | x :: r, l, i + 1, j + 1, p, q, hj, hp, hq, cp, cq, hs, hr =>
    once r (step l x) i j p q (by omega) (by simpa using hp) (by simpa using hq) (by simpa [run] using cp) (by simpa [run] using cq) hs hr

theorem run_append (l : List Acc) (r : List Pay) : ∀ ps : List Pay, run l (ps ++ r) = ((run (run l ps).1 r).1, (run l ps).2 ++ (run (run l ps).1 r).2) := by
  intro ps
  induction ps generalizing l with
  | nil => rfl
  | cons q t ih => simp only [List.cons_append, run, ih]
end Go.Proofs.YtkcekjpohpenkaaDoor.Lg
