import Derived.Test.YtkcekjpohpenkaaDoorMg
set_option linter.unusedVariables false
set_option linter.unusedSimpArgs false
set_option maxRecDepth 100000
namespace Go.Proofs.YtkcekjpohpenkaaDoor
open Go.RowKit Mo
open Go.Maps (Keyed)
section
variable {w : World} {B K : Nat} {c : Cfg} {s : St} {o : MOwn}

/-- the assembly's blocks are six different ones -/
structure Six (o : MOwn) : Prop where
  b_gb : o.gb ≠ o.b
  b_gv : o.gv ≠ o.b
  b_gm : o.gm ≠ o.b
  b_lm : o.lm ≠ o.b
  b_gg : o.gg ≠ o.b
  gb_gv : o.gv ≠ o.gb
  gb_gm : o.gm ≠ o.gb
  gb_lm : o.lm ≠ o.gb
  gb_gg : o.gg ≠ o.gb
  gv_gm : o.gm ≠ o.gv
  gv_lm : o.lm ≠ o.gv
  gv_gg : o.gg ≠ o.gv
  gm_lm : o.lm ≠ o.gm
  gm_gg : o.gg ≠ o.gm
  lm_gg : o.gg ≠ o.lm
theorem map_ne_blk {P : Program} {k : TypeId} {R : Value → Option (DataW Unit × List MemPlace)} {m n : Nat} {D : DataW Unit} (h : w.ownsMap P k R m n D) {g : Nat} {t : TypeId} {cs : Array Value} (hb : Blk w g t cs) : m ≠ g := by
  rintro rfl
  obtain ⟨es, cl, hm, _⟩ := h
  rw [hb] at hm
  cases hm
theorem MAt.six (h : MAt w B c s K o) : Six o := by
  obtain ⟨n, D, hn, hl, hD⟩ := h.late
  obtain ⟨n', D', hn', hl', hD'⟩ := h.gave
  obtain ⟨c1, b1, _⟩ := h.ob.blk
  obtain ⟨c2, b2, _⟩ := h.ov.blk
  obtain ⟨c3, b3, _⟩ := h.om.blk
  exact ⟨h.ob.ne_blk h.blk (by decide), h.ov.ne_blk h.blk (by decide), h.om.ne_blk h.blk (by decide), map_ne_blk hl h.blk, map_ne_blk hl' h.blk, h.ov.ne_own h.ob (by decide), h.om.ne_own h.ob (by decide), map_ne_blk hl b1, map_ne_blk hl' b1,
    h.om.ne_own h.ov (by decide), map_ne_blk hl b2, map_ne_blk hl' b2, map_ne_blk hl b3, map_ne_blk hl' b3, Ne.symm h.ne⟩
theorem LateAt.same {w' : World} {m K : Nat} {L : List (Int × Int × Int)} (h : LateAt w m L K) (hb : w'.heap[m]? = w.heap[m]?) : LateAt w' m L K := by
  obtain ⟨n, D, hn, ⟨es, cl, hm, hr⟩, hD⟩ := h
  exact ⟨n, D, hn, ⟨es, cl, hb.trans hm, hr⟩, hD⟩
theorem GaveAt.same {w' : World} {m K : Nat} {L : List (Int × Int)} (h : GaveAt w m L K) (hb : w'.heap[m]? = w.heap[m]?) : GaveAt w' m L K := by
  obtain ⟨n, D, hn, ⟨es, cl, hm, hr⟩, hD⟩ := h
  exact ⟨n, D, hn, ⟨es, cl, hb.trans hm, hr⟩, hD⟩

theorem MAt.set_vote (h : MAt w B c s K o) (i v : Nat) : MAt (w.setCell ⟨o.gv, i, none⟩ (.int .u32 (v : Int))) B c { s with votes := s.votes.set i v } K o ∧ Turned o o w (w.setCell ⟨o.gv, i, none⟩ (.int .u32 (v : Int))) := by
  have x := h.six
  have hs : ∀ k, k ≠ o.gv → (w.setCell ⟨o.gv, i, none⟩ (.int .u32 (v : Int))).heap[k]? = w.heap[k]? := fun k hne => Below.heap_setCell w _ _ k hne
  refine ⟨⟨?_, h.b, h.lm, h.gg, h.ne, h.ob.same (hs _ x.gb_gv.symm), ?_, h.om.same (hs _ x.gv_gm), h.late.same (hs _ x.gv_lm), h.gave.same (hs _ x.gv_gg)⟩, Turned.of_grown (setCell_grown w ⟨o.gv, i, none⟩ _) (.inr (.inr (.inl rfl)))⟩
  · have := (hs o.b x.b_gv.symm).trans h.blk
    unfold Blk
    simpa [MOwn.cells] using this
  · have := (h.ov.stored i (.int .u32 (v : Int))).1
    simpa [wordCells, List.map_set] using this
theorem MAt.set_member (h : MAt w B c s K o) (i j : Nat) (u : Value) (p : Int × Int) (hp : (pairCells s.members).set j u = pairCells (s.members.set i p)) :
    MAt (w.setCell ⟨o.gm, j, none⟩ u) B c { s with members := s.members.set i p } K o ∧ Turned o o w (w.setCell ⟨o.gm, j, none⟩ u) := by
  have x := h.six
  have hs : ∀ k, k ≠ o.gm → (w.setCell ⟨o.gm, j, none⟩ u).heap[k]? = w.heap[k]? := fun k hne => Below.heap_setCell w _ _ k hne
  refine ⟨⟨?_, h.b, h.lm, h.gg, h.ne, h.ob.same (hs _ x.gb_gm.symm), h.ov.same (hs _ x.gv_gm.symm), ?_, h.late.same (hs _ x.gm_lm), h.gave.same (hs _ x.gm_gg)⟩, Turned.of_grown (setCell_grown w ⟨o.gm, j, none⟩ _) (.inr (.inr (.inr (.inl rfl))))⟩
  · have := (hs o.b x.b_gm.symm).trans h.blk
    unfold Blk
    simpa [MOwn.cells] using this
  · have := (h.om.stored j u).1
    rw [hp] at this
    simpa using this
theorem MAt.set_voted (h : MAt w B c s K o) (i : Nat) (hi : i < s.members.length) (a : Int) :
    MAt (w.setCell ⟨o.gm, i * 2, none⟩ (.int .i64 a)) B c { s with members := s.members.set i (a, Mo.knows s i) } K o ∧ Turned o o w (w.setCell ⟨o.gm, i * 2, none⟩ (.int .i64 a)) :=
  h.set_member i (i * 2) _ _ (pairCells_set_fst _ i a hi)
theorem MAt.set_knows (h : MAt w B c s K o) (i : Nat) (hi : i < s.members.length) (a : Int) :
    MAt (w.setCell ⟨o.gm, i * 2 + 1, none⟩ (.int .i64 a)) B c { s with members := s.members.set i (Mo.voted s i, a) } K o ∧ Turned o o w (w.setCell ⟨o.gm, i * 2 + 1, none⟩ (.int .i64 a)) :=
  h.set_member i (i * 2 + 1) _ _ (pairCells_set_snd _ i a hi)

/-- all that 'behind' does -/
theorem behind_at (h : MAt w B c s K o) (hw : WF c s) (x : Say) : Calls Tryd.prog 31 #[.pointer (some ⟨o.b, 0, none⟩), sayV x] w (Did w B c (behind c s x).1 K o (behind c s x).2) := by
  have still : ∀ {code : Int}, Calls Tryd.prog 31 #[.pointer (some ⟨o.b, 0, none⟩), sayV x] w (Still w code) → behind c s x = (s, code) → Calls Tryd.prog 31 #[.pointer (some ⟨o.b, 0, none⟩), sayV x] w (Did w B c (behind c s x).1 K o (behind c s x).2) := by
    intro code hc he
    rw [he]
    exact hc.mono fun e w' ⟨h1, h2⟩ => ⟨o, h1, h.below h2, Turned.of_below h2, rfl⟩
  by_cases hb : isBlock s x.block = false
  · exact still (behind_noblock h x hb) (by simp [behind, hb])
  · have hb' : isBlock s x.block = true := by simpa using hb
    simp only [isBlock, Bool.and_eq_true, decide_eq_true_eq] at hb'
    obtain ⟨k, hk⟩ := Int.eq_ofNat_of_zero_le hb'.1
    have hkl : k < s.blocks.length := by have := hb'.2; omega
    have hkn : x.block.toNat = k := by omega
    by_cases h1 : x.round ≤ Mo.rnd s k
    · exact still (behind_low h hw x k hk hkl h1) (by simp [behind, hkn, h1])
    · by_cases h2 : 1000 < x.round
      · exact still (behind_high h hw x k hk hkl (by omega) h2) (by simp [behind, h2])
      · have hn : ¬ (isBlock s x.block = false ∨ x.round ≤ Mo.rnd s x.block.toNat ∨ 1000 < x.round) := by rw [hkn]; rintro (h3 | h3 | h3) <;> contradiction
        cases hc : certified c s k with
        | false => exact still (behind_hold h hw x k hk hkl (by omega) (by omega) hc) (by unfold behind; rw [if_neg hn, hkn, if_pos hc])
        | true =>
          have hc' : ¬ certified c s x.block.toNat = false := by rw [hkn, hc]; simp
          by_cases hf : s.blocks.length = 40
          · exact still (behind_full h hw x k hk hkl (by omega) (by omega) hc hf) (by unfold behind; rw [if_neg hn, if_neg hc', if_pos hf])
          · have := hw.len40
            have he : behind c s x = ({ s with blocks := s.blocks ++ [(x.block, x.round)], votes := s.votes ++ [0] }, 0) := by unfold behind; rw [if_neg hn, if_neg hc', if_neg hf]
            rw [he, hk]
            exact behind_ok h hw x k hk hkl (by omega) (by omega) hc (by omega)
end
end Go.Proofs.YtkcekjpohpenkaaDoor
