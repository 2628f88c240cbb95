import Derived.Test.YtkcekjpohpenkaaDoorGp
import Derived.Test.YtkcekjpohpenkaaDoorRefp
import Derived.Test.YtkcekjpohpenkaaDoorOpen
import Derived.Test.YtkcekjpohpenkaaDoorMoneyWalk
/- TopGoes: small words for its walk. -/
set_option linter.unusedVariables false
set_option linter.unusedSimpArgs false
set_option maxRecDepth 100000
namespace Go.Proofs.YtkcekjpohpenkaaDoor
open Go.ChangeShapes Go.WideShapes Go.ChangeAt Go.RowKit Mo

theorem addr_off (g x k : Nat) : (⟨g, x, none⟩ : Addr).add k = ⟨g, x + k, none⟩ := by
  rcases Nat.eq_zero_or_pos k with e | e
  · subst e; rfl
  · have : k ≠ 0 := by omega
    simp [Addr.add, this]

theorem own_part {w : World} {B g cap : Nat} {ps qs : List Lg.Pay} (h : Own w B 41 4 g cap ps.length (payCells ps)) (k : Nat) (hq : ∀ i p, qs[i]? = some p → ps[k + i]? = some p) : PRow w (some ⟨g, k * 4, none⟩) qs :=
  ⟨fun i hi => ⟨_, rfl, Own.lt h, fun p hp => by
    obtain ⟨c0, c1, c2, c3⟩ := payCells_at ps (k + i) p (hq i p hp)
    have e : ∀ j, k * 4 + (i * 4 + j) = (k + i) * 4 + j := fun j => by omega
    have e0 : k * 4 + i * 4 = (k + i) * 4 := by omega
    rw [addr_off, addr_off, addr_off, addr_off, e, e, e, e0]
    exact ⟨Own.cell h c0, Own.cell h c1, Own.cell h c2, Own.cell h c3⟩⟩⟩

theorem prow_nil (w : World) (a : Option Addr) : PRow w a [] := ⟨fun i hi => absurd hi (by simp)⟩
theorem row_prow {w : World} {B c n : Nat} {x : Option Addr} {ps : List Lg.Pay} (h : w.ownsRow B 41 4 (.slice x n c) n (payCells ps)) (hn : ps.length = n) : PRow w x ps :=
  ⟨fun i hi => by
    obtain ⟨g, c2, hv, _, hg⟩ := h.form (by omega)
    have h2 := h
    rw [hv] at h2
    simp only [Value.slice.injEq] at hv
    subst hn
    obtain ⟨b, hb, hl, hx⟩ := (own_part (qs := ps) h2 0 (fun i p hp => by simpa using hp)).row i hi
    refine ⟨b, ?_, hl, hx⟩
    rw [hv.1, ← hb]⟩
theorem prow_tail {w : World} {B g cap n k : Nat} {A : Option Addr} {pre ps qs : List Lg.Pay} (h : Own w B 41 4 g cap n (payCells ps)) (hps : pre ++ qs = ps) (hn : ps.length = n) (hk : pre.length = k) (hc : n ≤ cap) (hA : A = if cap = k then some ⟨g, 0, none⟩ else some ⟨g, k * 4, none⟩) : PRow w A qs := by
  subst hA
  split
  · have : qs.length = 0 := by rw [← hps, List.length_append] at hn; omega
    rw [List.length_eq_zero_iff.1 this]
    exact prow_nil _ _
  · subst hk hn
    exact own_part h _ (fun i p hp => by rw [← hps, List.getElem?_append_right (by omega)]; simpa using hp)
theorem prow_head {w : World} {B g cap n : Nat} {pre ps qs : List Lg.Pay} (h : Own w B 41 4 g cap n (payCells ps)) (hps : pre ++ qs = ps) (hn : ps.length = n) : PRow w (some ⟨g, 0, none⟩) pre := by
  subst hn
  refine own_part (qs := pre) h 0 (fun i p hp => ?_)
  rw [← hps, List.getElem?_append_left (by have := (List.getElem?_eq_some_iff.1 hp).1; omega)]
  simpa using hp

theorem code7 {c : Cfg} {s : St} {m : List Int} {pp : List (List Lg.Pay)} (h0 : ledCode m 0 = 0) (h : bookCode c s m pp ≠ 0) : bookCode c s m pp = 7 := by
  unfold bookCode at h ⊢
  split
  · rfl
  · rename_i h60
    rw [if_neg h60] at h
    unfold ledCode at h h0
    split at h0
    · omega
    · rename_i h1
      rw [if_neg (by omega)] at h
      exact absurd h0 h

theorem pays_row {H : Type} {enc : TypeId × Value → H} {w : World} {a : Option Addr} {len cap : Nat} {d : DataW H} {p : List MemPlace} (h : DataW.Trod enc Tryd.prog w 0 (fun _ => true) true 31 (.slice a len cap) d p) :
    ∃ ps : List Lg.Pay, ps.length = len ∧ PRow w a ps ∧ ps.length ≤ Rows.uptoBulk d := by
  obtain ⟨fuel, hf⟩ := h
  obtain ⟨A, ps, c, hcs, hr, hb⟩ := pays_read (fun _ => rfl) hf
  simp [Value.cells] at hcs
  obtain ⟨rfl, rfl, rfl⟩ := hcs
  exact ⟨ps, rfl, hr, hb⟩

/-- the pays of blocks that the law has laid, cell by cell -/
def OwnCells (w : World) (pp : List (List Lg.Pay)) (k : Nat) (xs : List Value) : Prop :=
  xs.length = k ∧ ∀ i, i < k → ∃ A c, xs[i]? = some (.slice A (pp.getD i []).length c) ∧ PRow w A (pp.getD i [])
theorem OwnCells.snoc {w : World} {pp : List (List Lg.Pay)} {k : Nat} {xs : List Value} (h : OwnCells w pp k xs) {A : Option Addr} {c : Nat} (hp : PRow w A (pp.getD k [])) : OwnCells w pp (k + 1) (xs ++ [.slice A (pp.getD k []).length c]) := by
  obtain ⟨h1, h2⟩ := h
  refine ⟨by simp [h1], fun i hi => ?_⟩
  by_cases e : i = k
  · subst e
    exact ⟨A, c, by rw [List.getElem?_append_right (by omega), h1]; simp, hp⟩
  · obtain ⟨A', c', h3, h4⟩ := h2 i (by omega)
    exact ⟨A', c', by rw [List.getElem?_append_left (by omega)]; exact h3, h4⟩
theorem OwnCells.later {w w' : World} {pp : List (List Lg.Pay)} {k : Nat} {xs : List Value} (h : OwnCells w pp k xs) (hb : Below w.heap.size w w') : OwnCells w' pp k xs :=
  ⟨h.1, fun i hi => by
    obtain ⟨A, c, h1, h2⟩ := h.2 i hi
    exact ⟨A, c, h1, h2.later hb⟩⟩
theorem own_pays2 {w : World} {B g cap k : Nat} {pp : List (List Lg.Pay)} {xs : List Value} (hx : OwnCells w pp k xs) (hpl : pp.length = k) (h : Own w B 31 1 g cap k xs) (hs : ∀ i, (pp.getD i []).length ≤ 1048576) : PPRow w (some ⟨g, 0, none⟩) pp := by
  refine ⟨fun i hi => ?_, hs⟩
  obtain ⟨A, c, h1, h2⟩ := hx.2 i (by omega)
  refine ⟨_, rfl, Own.lt h, A, c, ?_, h2⟩
  rw [addr_off]
  have := Own.cell h h1
  simpa using this
theorem own_small {pp : List (List Lg.Pay)} {mr : List Lg.Pay} (k : Nat) (h : ∀ i, (pp.getD i []).length ≤ 1048576) (hm : mr.length ≤ 1048576) : ∀ i, ((ownTo pp k ++ [mr]).getD i []).length ≤ 1048576 := by
  intro i
  by_cases h1 : i < k
  · have : (ownTo pp k ++ [mr]).getD i [] = pp.getD i [] := by
      rw [← ownTo_at pp k i h1]
      simp [List.getD_eq_getElem?_getD, List.getElem?_append_left (show i < (ownTo pp k).length by rw [ownTo_length]; exact h1)]
    rw [this]; exact h i
  · by_cases h2 : i = k
    · subst h2
      have : (ownTo pp i ++ [mr]).getD i [] = mr := by
        rw [List.getD_eq_getElem?_getD, List.getElem?_append_right (by rw [ownTo_length]; exact Nat.le_refl _), ownTo_length]
        simp
      rw [this]; exact hm
    · have : (ownTo pp k ++ [mr]).getD i [] = [] := by
        rw [List.getD_eq_getElem?_getD, List.getElem?_eq_none (by rw [List.length_append, ownTo_length]; simp; omega)]
        rfl
      rw [this]; simp
theorem own_last (pp : List (List Lg.Pay)) (mr : List Lg.Pay) (k : Nat) : (ownTo pp k ++ [mr]).getD k [] = mr := by
  rw [List.getD_eq_getElem?_getD, List.getElem?_append_right (by rw [ownTo_length]; exact Nat.le_refl _), ownTo_length]
  simp
theorem OwnCells.final {w : World} {pp : List (List Lg.Pay)} {mr : List Lg.Pay} {k : Nat} {xs : List Value} (h : OwnCells w pp k xs) {A : Option Addr} {c : Nat} (hp : PRow w A mr) : OwnCells w (ownTo pp k ++ [mr]) (k + 1) (xs ++ [.slice A mr.length c]) := by
  have h2 : OwnCells w (ownTo pp k ++ [mr]) k xs := ⟨h.1, fun i hi => by
    obtain ⟨A', c', h3, h4⟩ := h.2 i hi
    have e : (ownTo pp k ++ [mr]).getD i [] = pp.getD i [] := by
      rw [← ownTo_at pp k i hi]
      simp [List.getD_eq_getElem?_getD, List.getElem?_append_left (show i < (ownTo pp k).length by rw [ownTo_length]; exact hi)]
    rw [e]
    exact ⟨A', c', h3, h4⟩⟩
  have := h2.snoc (A := A) (c := c) (by rw [own_last]; exact hp)
  rwa [own_last] at this
theorem info_pays : (Tryd.prog.info? 31).map (fun i => (i.zero, i.size, i.bytes)) = some (some (.slice none 0 0), 1, 24) := by kernel_rfl
end Go.Proofs.YtkcekjpohpenkaaDoor
