import Derived.Test.YtkcekjpohpenkaaDoorNi
import Derived.Test.YtkcekjpohpenkaaDoorNe
/- MootGoes: what its loops look for; the script that it lays. -/
set_option linter.unusedVariables false
set_option linter.unusedSimpArgs false
namespace Go.Proofs.YtkcekjpohpenkaaDoor
open Go.RowKit Mo

/-! ### the greatest round, and the certified block with the greatest one -/
structure Tops (c : Cfg) (s : St) (k : Nat) (t : Int) (b : Nat) : Prop where
  t0 : 0 ≤ t
  t1 : t ≤ 1000
  rn : ∀ j, j < k → rnd s j ≤ t
  bl : b < s.blocks.length
  ce : certified c s b = true
  mx : ∀ j, j < k → certified c s j = true → rnd s j ≤ rnd s b

theorem Tops.start {c : Cfg} {s : St} (h : WF c s) : Tops c s 0 0 0 := ⟨by omega, by omega, fun j hj => by omega, by have := h.len1; omega, by simp [certified], fun j hj => by omega⟩
theorem Tops.next {c : Cfg} {s : St} {k : Nat} {t : Int} {b : Nat} (h : Tops c s k t b) (hw : WF c s) (hk : k < s.blocks.length) {t' : Int} {b' : Nat} (ht : t < rnd s k ∧ t' = rnd s k ∨ rnd s k ≤ t ∧ t' = t)
    (hb : certified c s k = true ∧ rnd s b < rnd s k ∧ b' = k ∨ (certified c s k = false ∨ rnd s k ≤ rnd s b) ∧ b' = b) : Tops c s (k + 1) t' b' := by
  have hr := hw.rnd k hk
  have t0 := h.t0
  have t1 := h.t1
  refine ⟨by omega, by omega, ?_, ?_, ?_, ?_⟩
  · intro j hj
    by_cases e : j = k
    · subst e; omega
    · have := h.rn j (by omega); omega
  · rcases hb with ⟨_, _, rfl⟩ | ⟨_, rfl⟩
    · exact hk
    · exact h.bl
  · rcases hb with ⟨hc, _, rfl⟩ | ⟨_, rfl⟩
    · exact hc
    · exact h.ce
  · intro j hj hc
    by_cases e : j = k
    · subst e
      rcases hb with ⟨_, _, rfl⟩ | ⟨hh, rfl⟩
      · exact Int.le_refl _
      · rcases hh with hh | hh
        · rw [hh] at hc; cases hc
        · exact hh
    · have := h.mx j (by omega) hc
      rcases hb with ⟨_, hh, rfl⟩ | ⟨hh, rfl⟩
      · omega
      · exact this

/-- no round above t was given up in the first k steps -/
structure Late (l : List Say) (t0 : Int) (k : Nat) (t : Int) : Prop where
  t0 : t0 ≤ t
  t1 : t ≤ 1000
  lt : ∀ j x, j < k → l[j]? = some x → x.kind = 3 → x.round ≤ 1000 → x.round ≤ t
theorem Late.next {l : List Say} {t0 : Int} {k : Nat} {t t' : Int} {x : Say} (h : Late l t0 k t) (hx : l[k]? = some x) (ht : x.kind = 3 ∧ t < x.round ∧ x.round ≤ 1000 ∧ t' = x.round ∨ (x.kind ≠ 3 ∨ x.round ≤ t ∨ 1000 < x.round) ∧ t' = t) : Late l t0 (k + 1) t' := by
  have a0 := h.t0
  have a1 := h.t1
  refine ⟨by omega, by omega, ?_⟩
  intro j y hj hy h3 h4
  by_cases e : j = k
  · subst e
    rw [hx] at hy
    cases hy
    omega
  · have := h.lt j y (by omega) hy h3 h4
    omega

/-! ### the cells of a script that is laid -/
def sayCells (l : List Say) : List Value := l.flatMap fun x => [.int .i64 x.kind, .int .i64 x.who, .int .i64 x.block, .int .i64 x.round, .int .i64 x.high]
theorem sayCells_length : ∀ l : List Say, (sayCells l).length = l.length * 5
  | [] => rfl
  | x :: r => by
    have := sayCells_length r
    unfold sayCells at this ⊢
    simp only [List.flatMap_cons, List.length_append, List.length_cons, List.length_nil, this]
    omega
theorem sayCells_append (l r : List Say) : sayCells (l ++ r) = sayCells l ++ sayCells r := by simp [sayCells]
theorem sayCells_at : ∀ (l : List Say) (i : Nat) (x : Say), l[i]? = some x →
    (sayCells l)[i * 5]? = some (.int .i64 x.kind) ∧ (sayCells l)[i * 5 + 1]? = some (.int .i64 x.who) ∧ (sayCells l)[i * 5 + 2]? = some (.int .i64 x.block) ∧ (sayCells l)[i * 5 + 3]? = some (.int .i64 x.round) ∧ (sayCells l)[i * 5 + 4]? = some (.int .i64 x.high)
  | [], i, x, h => by simp at h
  | y :: r, 0, x, h => by
    simp at h
    subst h
    exact ⟨rfl, rfl, rfl, rfl, rfl⟩
  | y :: r, i + 1, x, h => by
    have := sayCells_at r i x (by simpa using h)
    have e : ∀ j, (sayCells (y :: r))[(i + 1) * 5 + j]? = (sayCells r)[i * 5 + j]? := by
      intro j
      show (([_, _, _, _, _] : List Value) ++ sayCells r)[_]? = _
      rw [List.getElem?_append_right (by simp; omega)]
      congr 1
      simp
      omega
    have e0 := e 0
    simp only [Nat.add_zero] at e0
    rw [e0, e, e, e, e]
    exact this

/-- a script of the call's own, to be read -/
theorem own_says {w : World} {B g cap : Nat} {l : List Say} (h : w.ownsRow B 47 5 (.slice (some ⟨g, 0, none⟩) l.length cap) l.length (sayCells l)) : SRow w (some ⟨g, 0, none⟩) l := by
  refine ⟨fun i hi => ⟨⟨g, 0, none⟩, rfl, ?_, fun x hx => ?_⟩⟩
  · obtain ⟨g', cap', hv, _, hlt⟩ := h.form (by omega)
    cases hv
    exact hlt
  · obtain ⟨a0, a1, a2, a3, a4⟩ := sayCells_at l i x hx
    have hc := h.cells (g := g) rfl
    exact ⟨hc _ _ a0, hc _ _ a1, hc _ _ a2, hc _ _ a3, hc _ _ a4⟩

/-- the cells of a script that came in -/
theorem says_cells {w : World} {ab : Addr} {l : List Say} (h : SRow w (some ab) l) : ∀ j u, (sayCells l)[j]? = some u → w.cell? (ab.add j) = some u := by
  intro j u hu
  have hj : j < (sayCells l).length := (List.getElem?_eq_some_iff.1 hu).1
  rw [sayCells_length] at hj
  have hi : j / 5 < l.length := by omega
  obtain ⟨b, hb, _, hx⟩ := h.row (j / 5) hi
  cases hb
  have hxl : l[j / 5]? = some l[j / 5] := List.getElem?_eq_getElem hi
  obtain ⟨c0, c1, c2, c3, c4⟩ := hx _ hxl
  obtain ⟨a0, a1, a2, a3, a4⟩ := sayCells_at l (j / 5) _ hxl
  have hm : j = j / 5 * 5 ∨ j = j / 5 * 5 + 1 ∨ j = j / 5 * 5 + 2 ∨ j = j / 5 * 5 + 3 ∨ j = j / 5 * 5 + 4 := by omega
  rcases hm with e | e | e | e | e
  · rw [e] at hu ⊢; rw [a0] at hu; cases hu; exact c0
  · rw [e] at hu ⊢; rw [a1] at hu; cases hu; exact c1
  · rw [e] at hu ⊢; rw [a2] at hu; cases hu; exact c2
  · rw [e] at hu ⊢; rw [a3] at hu; cases hu; exact c3
  · rw [e] at hu ⊢; rw [a4] at hu; cases hu; exact c4

theorem sayCells_one (l : List Say) : ∀ u ∈ sayCells l, u.oneCell' = true := by
  intro u hu
  obtain ⟨x, _, hx⟩ := List.mem_flatMap.1 hu
  simp only [List.mem_cons, List.not_mem_nil, or_false] at hx
  rcases hx with rfl | rfl | rfl | rfl | rfl <;> rfl

theorem info_say : (Tryd.prog.info? 47).map (fun i => (i.zero, i.size, i.bytes)) = some (some (.agg #[.int .i64 0, .int .i64 0, .int .i64 0, .int .i64 0, .int .i64 0]), 5, 40) := by kernel_rfl

/-- an append of nothing -/
theorem run_append_nil {P : Program} (w : World) (base : Nat) (t ty e : TypeId) (i : TypeInfo) (size : Nat) (ht : P.underlying t = some (.slice e)) (hi : P.info? e = some i)
    (v : Value) (n : Nat) (xs : List Value) (hown : w.ownsRow base e size v n xs) (c : Nat) : (Builtin.append_ #[t, t] ty #[v, .slice none 0 c]).run P w = .ok v w := by
  rcases hown.2 with ⟨rfl, rfl⟩ | ⟨g, cap, cur, rfl, _, _, hnc, _⟩
  · simp [Builtin.append_, run_underlying ht, sizeOf, typeInfo, hi, Builtin.lenOf, Builtin.firstCells]
  · simp [Builtin.append_, run_underlying ht, sizeOf, typeInfo, hi, Builtin.lenOf, Builtin.firstCells, hnc, storeCells]
theorem wpList_append_nil {P : Program} {w : World} {ops : Array Oper} {rest : List Oper} {o : Oper} {a : Act} {Q : Exit → Act → World → Prop} (hgd : o.guard = none) (s x : Operand) (t : TypeId)
    (ho : o.op = .call { callee := .builtin .append, args := #[s, x], argTypes := #[t, t] })
    (base : Nat) (e : TypeId) (i : TypeInfo) (size : Nat) (ht : P.underlying t = some (.slice e)) (hi : P.info? e = some i)
    (v : Value) (n : Nat) (xs : List Value) (hs : a.eval s = v) (hown : w.ownsRow base e size v n xs) (c : Nat) (hx : a.eval x = .slice none 0 c)
    (h : wpList P ops Q rest (a.put o.dst v) w) : wpList P ops Q (o :: rest) a w := by
  refine wpList_plain hgd fun K hK => ?_
  have hrun := run_append_nil (P := P) w base t o.type e i size ht hi v n xs hown c
  unfold Oper.wp
  simp [execOp, ho, resolve, invoke, builtin, hs, hx, hrun, Result.andThen]
  exact hK _ _ h

/-- a script that came in, appended -/
theorem wpList_append_script {w : World} {ops : Array Oper} {rest : List Oper} {o : Oper} {a : Act} {Q : Exit → Act → World → Prop} (hgd : o.guard = none) (s x : Operand)
    (ho : o.op = .call { callee := .builtin .append, args := #[s, x], argTypes := #[23, 23] })
    (base : Nat) (v : Value) (n : Nat) (xs : List Value) (hs : a.eval s = v) (hown : w.ownsRow base 47 5 v n xs) (A : Option Addr) (cap : Nat) (l : List Say) (hx : a.eval x = .slice A l.length cap) (hr : SRow w A l)
    (hn : n + l.length ≤ 1000) (hbase : base ≤ w.heap.size)
    (h : ∀ v' w', w'.ownsRow base 47 5 v' (n + l.length) (xs ++ sayCells l) → w.grownBy w' v.ownBlock → wpList Tryd.prog ops Q rest (a.put o.dst v') w') : wpList Tryd.prog ops Q (o :: rest) a w := by
  obtain ⟨i0, hi0, hz0, hz1, hz2⟩ := info_parts info_say
  cases A with
  | none =>
    have h0 : l = [] := by
      cases l with
      | nil => rfl
      | cons y r => obtain ⟨b, hb, _⟩ := hr.row 0 (by simp); cases hb
    subst h0
    refine wpList_append_nil hgd s x 23 ho base 47 i0 5 Tryd.underlying23 hi0 v n xs hs hown cap hx ?_
    exact h v w (by simpa [sayCells] using hown) (World.grownBy.refl w _)
  | some ab =>
    refine wpList_append_own w hgd s x 23 ho base 47 i0 _ 5 40 Tryd.underlying23 hi0 hz0 hz1 hz2 rfl (by omega) v n xs hs hown ab l.length cap (sayCells l) hx (sayCells_length l) (says_cells hr) (sayCells_one l) (by unfold maxLen; omega) (by omega) hbase ?_
    intro v' w' h1 h2 _
    exact h v' w' h1 h2

/-! ### the script that MootGoes lays, piece by piece -/
def laid3 (l : List Say) (best : Nat) (top : Int) (k : Nat) : List Say := l ++ (List.range k).flatMap fun i => lates i best top
def laid4 (l : List Say) (n best a : Nat) (top : Int) (k : Nat) : List Say := (laid3 l best top n ++ [⟨1, 0, best, top + 2, 0⟩]) ++ ballots a k
def laid5 (l : List Say) (n best a : Nat) (top : Int) (k : Nat) : List Say := (laid4 l n best a top n ++ [⟨1, 0, a, top + 3, 0⟩]) ++ ballots (a + 1) k
theorem laid3_zero (l : List Say) (best : Nat) (top : Int) : laid3 l best top 0 = l := by simp [laid3]
theorem laid3_succ (l : List Say) (best : Nat) (top : Int) (k : Nat) : laid3 l best top (k + 1) = laid3 l best top k ++ [⟨4, k, best, 0, 0⟩, ⟨3, k, 0, top + 1, 0⟩] := by
  simp [laid3, List.range_succ, lates]
theorem laid4_zero (l : List Say) (n best a : Nat) (top : Int) : laid4 l n best a top 0 = laid3 l best top n ++ [⟨1, 0, best, top + 2, 0⟩] := by simp [laid4, ballots]
theorem laid4_succ (l : List Say) (n best a : Nat) (top : Int) (k : Nat) : laid4 l n best a top (k + 1) = laid4 l n best a top k ++ [⟨2, k, a, 0, 0⟩] := by simp [laid4, ballots, List.range_succ]
theorem laid5_zero (l : List Say) (n best a : Nat) (top : Int) : laid5 l n best a top 0 = laid4 l n best a top n ++ [⟨1, 0, a, top + 3, 0⟩] := by simp [laid5, ballots]
theorem laid5_succ (l : List Say) (n best a : Nat) (top : Int) (k : Nat) : laid5 l n best a top (k + 1) = laid5 l n best a top k ++ [⟨2, k, (a : Int) + 1, 0, 0⟩] := by simp [laid5, ballots, List.range_succ]
theorem laid5_all (l : List Say) (n best a : Nat) (top : Int) : laid5 l n best a top n = l ++ goesScript n best a top := by
  simp [laid5, laid4, laid3, goesScript]
theorem laid3_length (l : List Say) (best : Nat) (top : Int) : ∀ k, (laid3 l best top k).length = l.length + 2 * k
  | 0 => by rw [laid3_zero]; omega
  | k + 1 => by rw [laid3_succ, List.length_append, laid3_length l best top k]; simp; omega
theorem laid4_length (l : List Say) (n best a : Nat) (top : Int) (k : Nat) : (laid4 l n best a top k).length = l.length + 2 * n + 1 + k := by
  simp [laid4, laid3_length, ballots]; omega
theorem laid5_length (l : List Say) (n best a : Nat) (top : Int) (k : Nat) : (laid5 l n best a top k).length = l.length + 2 * n + 1 + n + 1 + k := by
  simp [laid5, laid4_length, ballots]; omega

/-- one append more -/
theorem laid_next {w : World} {B g cap : Nat} {ll r : List Say} (h : w.ownsRow B 47 5 (.slice (some ⟨g, 0, none⟩) (ll.length + r.length) cap) (ll.length + r.length) (sayCells ll ++ sayCells r)) :
    w.ownsRow B 47 5 (.slice (some ⟨g, 0, none⟩) (ll.length + r.length) cap) (ll ++ r).length (sayCells (ll ++ r)) := by
  rw [List.length_append, sayCells_append]
  exact h

/-! ### what the law tells in the end -/
structure GoesEnd (c : Cfg) (s : St) (best : Nat) (t : St) : Prop where
  len : t.blocks.length = s.blocks.length + 2
  da : (decided c t).getD s.blocks.length false = true
  db : (decided c t).getD best false = true
theorem goes_end {c : Cfg} {l : List Say} {s : St} {t1 top : Int} {best : Nat} (h1 : 1 ≤ c.n) (h7 : c.n ≤ 7) (hn : c.need ≤ c.n) (hl : c.liars < 2 ^ c.n) (hs : (run c (Mo.start c) l).1 = s)
    (hT : Tops c s s.blocks.length t1 best) (hL : Late l t1 l.length top) (ht3 : top + 3 ≤ 1000) (h38 : s.blocks.length + 2 ≤ 40) :
    GoesEnd c s best (run c (Mo.start c) (l ++ goesScript c.n best s.blocks.length top)).1 := by
  have hI := inv_run (inv_start (c := c) h1 h7 hn hl) l
  rw [hs] at hI
  have ht := hT.t0
  have hlt := hL.t0
  have hK : Kin c top s := by
    have := kin_run (T := top) l _ (inv_start (c := c) h1 h7 hn hl) (kin_start (by omega)) (fun b hb => by
      rw [hs] at hb ⊢
      have := hT.rn b hb
      omega) (fun x hx h3 _ h4 => by
      obtain ⟨j, hj⟩ := List.mem_iff_getElem?.1 hx
      exact hL.lt j x (List.getElem?_eq_some_iff.1 hj).1 hj h3 h4)
    rwa [hs] at this
  obtain ⟨t, hrt, hb, c1, c2⟩ := goes hI.wf (by omega) ht3 hT.bl hT.ce hK (fun b hb hc => hT.mx b hb hc) (by have := hT.rn best hT.bl; omega) h38
  have hw := wf_run hI.wf (goesScript c.n best s.blocks.length top)
  rw [hrt] at hw
  obtain ⟨d1, d2⟩ := goes_decided hw hT.bl hb c1 c2
  rw [run_append, hs]
  simp only [hrt]
  exact ⟨by rw [hb]; simp, d1, d2⟩
end Go.Proofs.YtkcekjpohpenkaaDoor
