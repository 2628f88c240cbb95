import Derived.Test.YtkcekjpohpenkaaDoorNj
import Derived.Test.YtkcekjpohpenkaaDoorBall
/- TopGoes: what is paid in the end. -/
set_option linter.unusedVariables false
set_option linter.unusedSimpArgs false
namespace Go.Proofs.YtkcekjpohpenkaaDoor
open Go.RowKit Mo

theorem goes_more {c : Cfg} {l : List Say} {s : St} {t1 top : Int} {best : Nat} (h1 : 1 ≤ c.n) (h7 : c.n ≤ 7) (hn : c.need ≤ c.n) (hl : c.liars < 2 ^ c.n) (hs : (run c (Mo.start c) l).1 = s)
    (hT : Tops c s s.blocks.length t1 best) (hL : Late l t1 l.length top) (ht3 : top + 3 ≤ 1000) (h38 : s.blocks.length + 2 ≤ 40) :
    ∃ t, (run c (Mo.start c) (l ++ goesScript c.n best s.blocks.length top)).1 = t ∧ WF c t ∧ t.blocks = s.blocks ++ [((best : Int), top + 2), ((s.blocks.length : Int), top + 3)] ∧
      certified c t s.blocks.length = true ∧ certified c t (s.blocks.length + 1) = true := by
  have hI := inv_run (inv_start (c := c) h1 h7 hn hl) l
  rw [hs] at hI
  have ht := hT.t0
  have hlt := hL.t0
  have hK : Kin c top s := by
    have := kin_run (T := top) l _ (inv_start (c := c) h1 h7 hn hl) (kin_start (by omega)) (fun b hb => by
      rw [hs] at hb ⊢
      have := hT.rn b hb
      omega) (fun x hx h3 _ h4 => by
      obtain ⟨j, hj⟩ := List.mem_iff_getElem?.1 hx
      exact hL.lt j x (List.getElem?_eq_some_iff.1 hj).1 hj h3 h4)
    rwa [hs] at this
  obtain ⟨t, hrt, hb, c1, c2⟩ := goes hI.wf (by omega) ht3 hT.bl hT.ce hK (fun b hb hc => hT.mx b hb hc) (by have := hT.rn best hT.bl; omega) h38
  have hw := wf_run hI.wf (goesScript c.n best s.blocks.length top)
  rw [hrt] at hw
  refine ⟨t, ?_, hw, hb, c1, c2⟩
  rw [run_append, hs]
  exact hrt

theorem up_split {c : Cfg} {s : St} (h : WF c s) : ∀ (X : Nat), X < s.blocks.length → ∀ x, x ∈ upsFull s.blocks X → ∃ pre, upsFull s.blocks X = pre ++ upsFull s.blocks x := by
  intro X
  induction X using Nat.strongRecOn with
  | _ X ih =>
    intro hX x hx
    have hst := upsFull_step (WF.chn h).chain hX
    rw [hst] at hx
    rcases List.mem_cons.1 hx with rfl | hx
    · exact ⟨[], rfl⟩
    · by_cases h0 : X = 0
      · subst h0
        rw [h.first, upsFull_neg (by simp)] at hx
        cases hx
      · obtain ⟨q1, q2, q3⟩ := h.par X (by omega) hX
        obtain ⟨p, hp⟩ := Int.eq_ofNat_of_zero_le q1
        have hp' : (s.blocks.getD X (0, 0)).1 = (p : Int) := hp
        rw [hp'] at hx hst
        obtain ⟨pre, hpre⟩ := ih p (by omega) (by omega) x hx
        exact ⟨X :: pre, by rw [hst, hpre]; rfl⟩

theorem up_more {c : Cfg} {s t : St} (h : WF c s) (ht : WF c t) {r : List (Int × Int)} (e : t.blocks = s.blocks ++ r) : ∀ (X : Nat), X < s.blocks.length → upsFull t.blocks X = upsFull s.blocks X := by
  intro X
  induction X using Nat.strongRecOn with
  | _ X ih =>
    intro hX
    have hX2 : X < t.blocks.length := by rw [e, List.length_append]; omega
    rw [upsFull_step (WF.chn h).chain hX, upsFull_step (WF.chn ht).chain hX2]
    have hg : t.blocks.getD X (0, 0) = s.blocks.getD X (0, 0) := by rw [e]; simp [List.getD_eq_getElem?_getD, List.getElem?_append_left hX]
    rw [hg]
    by_cases h0 : X = 0
    · subst h0
      rw [h.first, upsFull_neg (by simp), upsFull_neg (by simp)]
    · obtain ⟨q1, q2, q3⟩ := h.par X (by omega) hX
      obtain ⟨p, hp⟩ := Int.eq_ofNat_of_zero_le q1
      have hp' : (s.blocks.getD X (0, 0)).1 = (p : Int) := hp
      rw [hp', ih p (by omega) (by omega)]

/-- what the last decided block is -/
theorem last_spec (c : Cfg) (s : St) : ∀ k, (lastTo c s k < 0 ∨ ∃ b : Nat, lastTo c s k = b ∧ b < k ∧ (decided c s).getD b false = true) ∧ ∀ j, j < k → (decided c s).getD j false = true → 0 ≤ lastTo c s k ∧ rnd s j ≤ rnd s (lastTo c s k).toNat
  | 0 => ⟨.inl (by simp [lastTo]), fun j hj => by omega⟩
  | k + 1 => by
    obtain ⟨h1, h2⟩ := last_spec c s k
    unfold lastTo
    split
    · rename_i hc
      refine ⟨.inr ⟨k, rfl, by omega, hc.1⟩, fun j hj hd => ⟨by omega, ?_⟩⟩
      simp only [Int.toNat_natCast]
      by_cases e : j = k
      · subst e; exact Int.le_refl _
      · obtain ⟨h3, h4⟩ := h2 j (by omega) hd
        rcases hc.2 with h5 | h5
        · omega
        · omega
    · rename_i hc
      refine ⟨?_, fun j hj hd => ?_⟩
      · rcases h1 with h1 | ⟨b, hb, hbk, hd⟩
        · exact .inl h1
        · exact .inr ⟨b, hb, by omega, hd⟩
      · by_cases e : j = k
        · subst e
          have : ¬ (lastTo c s j < 0 ∨ rnd s (lastTo c s j).toNat ≤ rnd s j) := fun h => hc ⟨hd, h⟩
          omega
        · exact h2 j (by omega) hd

theorem gather_append (pp : List (List Lg.Pay)) (p r : List Nat) : gather pp (p ++ r) = gather pp p ++ gather pp r := by simp [gather]
theorem gather_congr {pp qq : List (List Lg.Pay)} : ∀ {p : List Nat}, (∀ k, k ∈ p → pp.getD k [] = qq.getD k []) → gather pp p = gather qq p
  | [], _ => rfl
  | k :: r, h => by
    have h1 := h k (by simp)
    have h2 := gather_congr (p := r) fun j hj => h j (by simp [hj])
    unfold gather at h2 ⊢
    simp only [List.flatMap_cons, h1, h2]

/-- the pays of blocks that the law lays -/
def ownTo (pp : List (List Lg.Pay)) (k : Nat) : List (List Lg.Pay) := (List.range k).map fun b => pp.getD b []
theorem ownTo_length (pp : List (List Lg.Pay)) (k : Nat) : (ownTo pp k).length = k := by simp [ownTo]
theorem ownTo_succ (pp : List (List Lg.Pay)) (k : Nat) : ownTo pp (k + 1) = ownTo pp k ++ [pp.getD k []] := by simp [ownTo, List.range_succ]
theorem ownTo_at (pp : List (List Lg.Pay)) (k i : Nat) (h : i < k) : (ownTo pp k).getD i [] = pp.getD i [] := by simp [ownTo, h]

theorem goes_paid {c : Cfg} {s t : St} {f : Nat} {t1 top : Int} {best : Nat} {l : List Say} (hF : Few c f) (hI : Inv c s) (hw : WF c t) (hb : t.blocks = s.blocks ++ [((best : Int), top + 2), ((s.blocks.length : Int), top + 3)])
    (c1 : certified c t s.blocks.length = true) (c2 : certified c t (s.blocks.length + 1) = true) (hT : Tops c s s.blocks.length t1 best) (hL : Late l t1 l.length top) (pp : List (List Lg.Pay)) (mr : List Lg.Pay) :
    ∃ R, paid c t (ownTo pp s.blocks.length ++ [mr]) = (paid c s pp ++ R) ++ mr := by
  have hlen : t.blocks.length = s.blocks.length + 2 := by rw [hb]; simp
  have hg1 : t.blocks.getD s.blocks.length (0, 0) = ((best : Int), top + 2) := by rw [hb]; simp [List.getD_eq_getElem?_getD]
  have hbl := hT.bl
  obtain ⟨da, _⟩ := goes_decided hw hT.bl hb c1 c2
  have hlt := hL.t0
  -- the last decided block
  have nd : (decided c t).getD (s.blocks.length + 1) false = false := by
    cases hd : (decided c t).getD (s.blocks.length + 1) false with
    | false => rfl
    | true =>
      obtain ⟨a', b', p0, p1, p2, p3, p4, p5, p6, p7⟩ := (decided_iff hw _).1 hd
      have := up_le hw b' (by omega) _ p7
      omega
  have rj : ∀ j, j < s.blocks.length → rnd t j ≤ top := by
    intro j hj
    have := hT.rn j hj
    unfold rnd at this ⊢
    have hg : t.blocks.getD j (0, 0) = s.blocks.getD j (0, 0) := by rw [hb]; simp [List.getD_eq_getElem?_getD, List.getElem?_append_left hj]
    rw [hg]
    omega
  have ra : rnd t s.blocks.length = top + 2 := by unfold rnd; rw [hg1]
  have hlast : lastTo c t t.blocks.length = s.blocks.length := by
    rw [hlen]
    show (if (decided c t).getD (s.blocks.length + 1) false = true ∧ _ then _ else lastTo c t (s.blocks.length + 1)) = _
    rw [if_neg (by rw [nd]; simp)]
    unfold lastTo
    rw [if_pos]
    refine ⟨da, ?_⟩
    rcases Int.lt_or_le (lastTo c t s.blocks.length) 0 with h | h
    · exact .inl h
    · right
      have := lastTo_lt c t s.blocks.length
      have := rj (lastTo c t s.blocks.length).toNat (by omega)
      omega
  have hpa : path t.blocks (s.blocks.length : Int) = path s.blocks best ++ [s.blocks.length] := by
    rw [path_step (WF.chn hw).chain (by omega), hg1]
    unfold path
    rw [up_more hI.wf hw hb best hbl]
  have hin : ∀ k, k ∈ path s.blocks best → k < s.blocks.length := by
    intro k hk
    unfold path at hk
    rw [List.mem_reverse] at hk
    have := up_le hI.wf best hbl k hk
    omega
  have hown : ∀ k, k < s.blocks.length → (ownTo pp s.blocks.length ++ [mr]).getD k [] = pp.getD k [] := by
    intro k hk
    rw [← ownTo_at pp s.blocks.length k hk]
    simp [List.getD_eq_getElem?_getD, List.getElem?_append_left (show k < (ownTo pp s.blocks.length).length by rw [ownTo_length]; exact hk)]
  have hmr : (ownTo pp s.blocks.length ++ [mr]).getD s.blocks.length [] = mr := by
    rw [List.getD_eq_getElem?_getD, List.getElem?_append_right (by rw [ownTo_length]; exact Nat.le_refl _), ownTo_length]
    simp
  rw [paid_pos _ (by rw [hlast]; omega), hlast, hpa, gather_append, gather_congr (p := path s.blocks best) (qq := pp) (fun k hk => hown k (hin k hk))]
  have hone : gather (ownTo pp s.blocks.length ++ [mr]) [s.blocks.length] = mr := by
    unfold gather
    simp only [List.flatMap_cons, List.flatMap_nil, List.append_nil, hmr]
  rw [hone]
  rcases (last_spec c s s.blocks.length).1 with hneg | ⟨b0, hb0, hb0l, hd⟩
  · rw [paid_neg pp hneg]
    exact ⟨_, rfl⟩
  · rw [paid_pos pp (by omega), hb0]
    obtain ⟨a', B, p0, p1, p2, p3, p4, p5, p6, p7⟩ := (decided_iff hI.wf b0).1 hd
    have hx := locks hF hI p0 p1 (by omega) p3 p4 p5 p6 _ best (Nat.le_refl _) hbl hT.ce (by have := hT.mx a' p1 p4; omega)
    obtain ⟨pre, hpre⟩ := up_split hI.wf best hbl b0 (up_trans hI.wf best hbl _ _ hx p7)
    refine ⟨gather pp pre.reverse, ?_⟩
    have : path s.blocks (best : Int) = path s.blocks (b0 : Int) ++ pre.reverse := by unfold path; rw [hpre, List.reverse_append]
    rw [this, gather_append]
end Go.Proofs.YtkcekjpohpenkaaDoor
