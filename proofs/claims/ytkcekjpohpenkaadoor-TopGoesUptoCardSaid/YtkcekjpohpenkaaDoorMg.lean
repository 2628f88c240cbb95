import Derived.Test.YtkcekjpohpenkaaDoorMf
set_option linter.unusedVariables false
set_option linter.unusedSimpArgs false
set_option maxRecDepth 100000
namespace Go.Proofs.YtkcekjpohpenkaaDoor
open Go.RowKit Mo
open Go.Maps (Keyed)
section
variable {w : World} {B K : Nat} {c : Cfg} {s : St} {o : MOwn}
theorem own_boxed {w : World} {B : Nat} {e : TypeId} {size g cap n : Nat} {xs : List Value} (h : Own w B e size g cap n xs) (hlt : g < w.heap.size) (ob : Obj) (k : Nat) : Own ((w.alloc ob).drewN k) B e size g cap n xs :=
  h.same (Below.heap_alloc w ob g hlt)
theorem grown_c3 {w w2 : World} {ob : Obj} {b g n cap j : Nat} {v : Value} (hg : ((w.alloc ob).drew).grownBy w2 (Value.slice (some ⟨g, 0, none⟩) n cap).ownBlock) (hb : b < w.heap.size) (hne : b ≠ g) (h : w.cell? ⟨b, j, none⟩ = some v) : w2.cell? ⟨b, j, none⟩ = some v := by
  rw [hg.cell_far ⟨b, j, none⟩ (by simp; omega) (by simpa [Value.ownBlock] using hne)]
  exact (World.cell?_of_block (w := w) (Below.heap_alloc w ob b hb)).trans h
theorem grown_f3 {w w2 : World} {ob : Obj} {b g n cap j : Nat} (hg : ((w.alloc ob).drew).grownBy w2 (Value.slice (some ⟨g, 0, none⟩) n cap).ownBlock) (hb : b < w.heap.size) (hne : b ≠ g) (h : w.frozen? ⟨b, j, none⟩ = false) : w2.frozen? ⟨b, j, none⟩ = false := by
  rw [hg.frozen_far ⟨b, j, none⟩ (by simp; omega) (by simpa [Value.ownBlock] using hne)]
  exact (World.frozen?_of_block (Below.heap_alloc w ob b hb)).trans h
theorem grown_c4 {w w2 : World} {ob : Obj} {b g n cap j : Nat} {v : Value} (hg : (w.alloc ob).grownBy w2 (Value.slice (some ⟨g, 0, none⟩) n cap).ownBlock) (hb : b < w.heap.size) (hne : b ≠ g) (h : w.cell? ⟨b, j, none⟩ = some v) : w2.cell? ⟨b, j, none⟩ = some v := by
  rw [hg.cell_far ⟨b, j, none⟩ (by simp; omega) (by simpa [Value.ownBlock] using hne)]
  exact (World.cell?_of_block (w := w) (Below.heap_alloc w ob b hb)).trans h
theorem grown_f4 {w w2 : World} {ob : Obj} {b g n cap j : Nat} (hg : (w.alloc ob).grownBy w2 (Value.slice (some ⟨g, 0, none⟩) n cap).ownBlock) (hb : b < w.heap.size) (hne : b ≠ g) (h : w.frozen? ⟨b, j, none⟩ = false) : w2.frozen? ⟨b, j, none⟩ = false := by
  rw [hg.frozen_far ⟨b, j, none⟩ (by simp; omega) (by simpa [Value.ownBlock] using hne)]
  exact (World.frozen?_of_block (Below.heap_alloc w ob b hb)).trans h
theorem setCell_grown (w : World) (p : Addr) (v : Value) : w.grownBy (w.setCell p v) (some p.block) :=
  ⟨rfl, rfl, rfl, by simp, fun k _ hk => Below.heap_setCell w p v k (fun e => hk (by rw [e]))⟩

/-- what is new behind an append: one of the own rows has grown or moved -/
theorem turned_append {w1 w2 : World} {o o' : MOwn} {ob : Obj} {g gg n cap : Nat} (hg : ((w1.alloc ob).drew).grownBy w2 (Value.slice (some ⟨g, 0, none⟩) n cap).ownBlock) (hgo : o.has g) (hat : (Value.slice (some ⟨g, 0, none⟩) n cap).ownBlock = some gg ∨ gg = w1.heap.size + 1)
    (ho : ∀ k, o'.has k → o.has k ∨ k = gg) : Turned o o' w1 w2 := by
  have e : (Value.slice (some ⟨g, 0, none⟩) n cap).ownBlock = some g := rfl
  rw [e] at hg hat
  refine ⟨hg.os, hg.tape, hg.output, by have := hg.size; simp at this; omega, fun k hk hn => ?_, fun k hk => ?_⟩
  · rw [hg.block k (by simp; omega) (fun e => by cases e; exact hn hgo)]
    exact Below.heap_alloc w1 ob k hk
  · rcases ho k hk with h | rfl
    · exact .inl h
    · rcases hat with h | h
      · cases h; exact .inl hgo
      · exact .inr (by omega)

/-- what is new behind an append: one of the own rows has grown or moved -/
theorem turned_append' {w1 w2 : World} {o o' : MOwn} {ob : Obj} {g gg n cap : Nat} (hg : (w1.alloc ob).grownBy w2 (Value.slice (some ⟨g, 0, none⟩) n cap).ownBlock) (hgo : o.has g) (hat : (Value.slice (some ⟨g, 0, none⟩) n cap).ownBlock = some gg ∨ gg = w1.heap.size + 1)
    (ho : ∀ k, o'.has k → o.has k ∨ k = gg) : Turned o o' w1 w2 := by
  have e : (Value.slice (some ⟨g, 0, none⟩) n cap).ownBlock = some g := rfl
  rw [e] at hg hat
  refine ⟨hg.os, hg.tape, hg.output, by have := hg.size; simp at this; omega, fun k hk hn => ?_, fun k hk => ?_⟩
  · rw [hg.block k (by simp; omega) (fun e => by cases e; exact hn hgo)]
    exact Below.heap_alloc w1 ob k hk
  · rcases ho k hk with h | rfl
    · exact .inl h
    · rcases hat with h | h
      · cases h; exact .inl hgo
      · exact .inr (by omega)

theorem blocks_more {w1 w2 : World} {ob : Obj} {a r : Int} {gg cap : Nat} (h : MAt w1 B c s K o) (hown : Own w2 B 45 2 gg cap (s.blocks.length + 1) (pairCells s.blocks ++ [.int .i64 a, .int .i64 r]))
    (hg : ((w1.alloc ob).drew).grownBy w2 (Value.slice (some ⟨o.gb, 0, none⟩) s.blocks.length o.cb).ownBlock) (hat : (Value.slice (some ⟨o.gb, 0, none⟩) s.blocks.length o.cb).ownBlock = some gg ∨ gg = w1.heap.size + 1) :
    MAt (w2.setCell ⟨o.b, 3, none⟩ (.slice (some ⟨gg, 0, none⟩) (s.blocks.length + 1) cap)) B c { s with blocks := s.blocks ++ [(a, r)] } K { o with gb := gg, cb := cap } ∧ Turned o { o with gb := gg, cb := cap } w1 (w2.setCell ⟨o.b, 3, none⟩ (.slice (some ⟨gg, 0, none⟩) (s.blocks.length + 1) cap)) := by
  have e : (Value.slice (some ⟨o.gb, 0, none⟩) s.blocks.length o.cb).ownBlock = some o.gb := rfl
  have ht : Turned o { o with gb := gg, cb := cap } w1 w2 := turned_append hg (.inr (.inl rfl)) hat (fun k hk => by
    rcases hk with hk | hk | hk
    · exact .inl (.inl hk)
    · exact .inr hk
    · exact .inl (.inr (.inr hk)))
  have hb1 : o.gb ≠ o.b := h.ob.ne_blk h.blk (by decide)
  have hk : ∀ k, o.has k → k ≠ o.gb → w2.heap[k]? = w1.heap[k]? := fun k hk hne => by
    rw [hg.block k (by have := (h.has_lt hk).1; simp; omega) (by rw [e]; intro e1; cases e1; exact hne rfl)]
    exact Below.heap_alloc w1 ob k (h.has_lt hk).1
  have hbk : Blk w2 o.b 70 (o.cells c s) := (hk o.b (.inl rfl) (Ne.symm hb1)).trans h.blk
  have hgb : gg ≠ o.b := hown.ne_blk hbk (by decide)
  have hs : ∀ k, k ≠ o.b → (w2.setCell ⟨o.b, 3, none⟩ (.slice (some ⟨gg, 0, none⟩) (s.blocks.length + 1) cap)).heap[k]? = w2.heap[k]? := fun k hne => Below.heap_setCell w2 _ _ k hne
  obtain ⟨n, D, hn, hl, hD⟩ := h.late
  obtain ⟨n', D', hn', hl', hD'⟩ := h.gave
  have hv1 : o.gv ≠ o.gb := h.ov.ne_own h.ob (by decide)
  have hm1 : o.gm ≠ o.gb := h.om.ne_own h.ob (by decide)
  have hv2 : o.gv ≠ o.b := h.ov.ne_blk h.blk (by decide)
  have hm2 : o.gm ≠ o.b := h.om.ne_blk h.blk (by decide)
  have hl2 : o.lm ≠ o.b := fun e1 => by obtain ⟨es, cl, hb, _⟩ := hl; rw [e1, h.blk] at hb; cases hb
  have hl3 : o.gg ≠ o.b := fun e1 => by obtain ⟨es, cl, hb, _⟩ := hl'; rw [e1, h.blk] at hb; cases hb
  obtain ⟨cur, hcur, _⟩ := h.ob.blk
  have hl4 : o.lm ≠ o.gb := fun e1 => by obtain ⟨es, cl, hb, _⟩ := hl; rw [e1, hcur] at hb; cases hb
  have hl5 : o.gg ≠ o.gb := fun e1 => by obtain ⟨es, cl, hb, _⟩ := hl'; rw [e1, hcur] at hb; cases hb
  refine ⟨⟨?_, h.b, h.lm, h.gg, h.ne, ?_, ?_, ?_, ?_, ?_⟩, ht.trans (Turned.of_grown (setCell_grown _ _ _) (.inl rfl))⟩
  · have := hbk.set_ 3 (.slice (some ⟨gg, 0, none⟩) (s.blocks.length + 1) cap)
    simpa [MOwn.cells] using this
  · have := hown.same (hs gg hgb)
    simpa [pairCells] using this
  · exact h.ov.same ((hs _ hv2).trans (hk _ (.inr (.inr (.inl rfl))) hv1))
  · exact h.om.same ((hs _ hm2).trans (hk _ (.inr (.inr (.inr (.inl rfl)))) hm1))
  · obtain ⟨es, cl, hb, hr⟩ := hl
    exact ⟨n, D, hn, ⟨es, cl, ((hs _ hl2).trans (hk _ (.inr (.inr (.inr (.inr (.inl rfl))))) hl4)).trans hb, hr⟩, hD⟩
  · obtain ⟨es, cl, hb, hr⟩ := hl'
    exact ⟨n', D', hn', ⟨es, cl, ((hs _ hl3).trans (hk _ (.inr (.inr (.inr (.inr (.inr rfl))))) hl5)).trans hb, hr⟩, hD'⟩
theorem info_block : (Tryd.prog.info? 45).map (fun i => (i.zero, i.size, i.bytes)) = some (some (.agg #[.int .i64 0, .int .i64 0]), 2, 16) := by kernel_rfl
theorem info_u32 : (Tryd.prog.info? 22).map (fun i => (i.zero, i.size, i.bytes)) = some (some (.int .u32 0), 1, 4) := by kernel_rfl

theorem votes_more {w1 w2 : World} {ob : Obj} {x : Nat} {gg cap : Nat} (h : MAt w1 B c s K o) (hown : Own w2 B 22 1 gg cap (s.votes.length + 1) (wordCells s.votes ++ [.int .u32 x]))
    (hg : (w1.alloc ob).grownBy w2 (Value.slice (some ⟨o.gv, 0, none⟩) s.votes.length o.cv).ownBlock) (hat : (Value.slice (some ⟨o.gv, 0, none⟩) s.votes.length o.cv).ownBlock = some gg ∨ gg = w1.heap.size + 1) :
    MAt (w2.setCell ⟨o.b, 4, none⟩ (.slice (some ⟨gg, 0, none⟩) (s.votes.length + 1) cap)) B c { s with votes := s.votes ++ [x] } K { o with gv := gg, cv := cap } ∧ Turned o { o with gv := gg, cv := cap } w1 (w2.setCell ⟨o.b, 4, none⟩ (.slice (some ⟨gg, 0, none⟩) (s.votes.length + 1) cap)) := by
  have e : (Value.slice (some ⟨o.gv, 0, none⟩) s.votes.length o.cv).ownBlock = some o.gv := rfl
  have ht : Turned o { o with gv := gg, cv := cap } w1 w2 := turned_append' hg (.inr (.inr (.inl rfl))) hat (fun k hk => by
    rcases hk with hk | hk | hk | hk
    · exact .inl (.inl hk)
    · exact .inl (.inr (.inl hk))
    · exact .inr hk
    · exact .inl (.inr (.inr (.inr hk))))
  have hb1 : o.gv ≠ o.b := h.ov.ne_blk h.blk (by decide)
  have hk : ∀ k, o.has k → k ≠ o.gv → w2.heap[k]? = w1.heap[k]? := fun k hk hne => by
    rw [hg.block k (by have := (h.has_lt hk).1; simp; omega) (by rw [e]; intro e1; cases e1; exact hne rfl)]
    exact Below.heap_alloc w1 ob k (h.has_lt hk).1
  have hbk : Blk w2 o.b 70 (o.cells c s) := (hk o.b (.inl rfl) (Ne.symm hb1)).trans h.blk
  have hgb : gg ≠ o.b := hown.ne_blk hbk (by decide)
  have hs : ∀ k, k ≠ o.b → (w2.setCell ⟨o.b, 4, none⟩ (.slice (some ⟨gg, 0, none⟩) (s.votes.length + 1) cap)).heap[k]? = w2.heap[k]? := fun k hne => Below.heap_setCell w2 _ _ k hne
  obtain ⟨n, D, hn, hl, hD⟩ := h.late
  obtain ⟨n', D', hn', hl', hD'⟩ := h.gave
  have hv1 : o.gb ≠ o.gv := h.ob.ne_own h.ov (by decide)
  have hm1 : o.gm ≠ o.gv := h.om.ne_own h.ov (by decide)
  have hv2 : o.gb ≠ o.b := h.ob.ne_blk h.blk (by decide)
  have hm2 : o.gm ≠ o.b := h.om.ne_blk h.blk (by decide)
  have hl2 : o.lm ≠ o.b := fun e1 => by obtain ⟨es, cl, hb, _⟩ := hl; rw [e1, h.blk] at hb; cases hb
  have hl3 : o.gg ≠ o.b := fun e1 => by obtain ⟨es, cl, hb, _⟩ := hl'; rw [e1, h.blk] at hb; cases hb
  obtain ⟨cur, hcur, _⟩ := h.ov.blk
  have hl4 : o.lm ≠ o.gv := fun e1 => by obtain ⟨es, cl, hb, _⟩ := hl; rw [e1, hcur] at hb; cases hb
  have hl5 : o.gg ≠ o.gv := fun e1 => by obtain ⟨es, cl, hb, _⟩ := hl'; rw [e1, hcur] at hb; cases hb
  refine ⟨⟨?_, h.b, h.lm, h.gg, h.ne, ?_, ?_, ?_, ?_, ?_⟩, ht.trans (Turned.of_grown (setCell_grown _ _ _) (.inl rfl))⟩
  · have := hbk.set_ 4 (.slice (some ⟨gg, 0, none⟩) (s.votes.length + 1) cap)
    simpa [MOwn.cells] using this
  · exact h.ob.same ((hs _ hv2).trans (hk _ (.inr (.inl rfl)) hv1))
  · have := hown.same (hs gg hgb)
    simpa [wordCells] using this
  · exact h.om.same ((hs _ hm2).trans (hk _ (.inr (.inr (.inr (.inl rfl)))) hm1))
  · obtain ⟨es, cl, hb, hr⟩ := hl
    exact ⟨n, D, hn, ⟨es, cl, ((hs _ hl2).trans (hk _ (.inr (.inr (.inr (.inr (.inl rfl))))) hl4)).trans hb, hr⟩, hD⟩
  · obtain ⟨es, cl, hb, hr⟩ := hl'
    exact ⟨n', D', hn', ⟨es, cl, ((hs _ hl3).trans (hk _ (.inr (.inr (.inr (.inr (.inr rfl))))) hl5)).trans hb, hr⟩, hD'⟩

theorem votes_gather {w1 w2 : World} {o1 : MOwn} {ob : Obj} {gg cap : Nat} (h : MAt w1 B c s K o1) (hb : Turned o o1 w w1) (hown : Own w2 B 22 1 gg cap (s.votes.length + 1) (wordCells s.votes ++ [.int .u32 0]))
    (hg : (w1.alloc ob).grownBy w2 (Value.slice (some ⟨o1.gv, 0, none⟩) s.votes.length o1.cv).ownBlock) (hat : (Value.slice (some ⟨o1.gv, 0, none⟩) s.votes.length o1.cv).ownBlock = some gg ∨ gg = w1.heap.size + 1) :
    MAt (w2.setCell ⟨o1.b, 4, none⟩ (.slice (some ⟨gg, 0, none⟩) (s.votes.length + 1) cap)) B c { s with votes := s.votes ++ [0] } K { o1 with gv := gg, cv := cap } ∧ Turned o { o1 with gv := gg, cv := cap } w (w2.setCell ⟨o1.b, 4, none⟩ (.slice (some ⟨gg, 0, none⟩) (s.votes.length + 1) cap)) := by
  obtain ⟨h1, h2⟩ := votes_more (x := 0) h hown hg hat
  exact ⟨h1, hb.trans h2⟩

/-- what a step leaves: its code, and the assembly in a new state -/
def Did (w : World) (B : Nat) (c : Cfg) (s : St) (K : Nat) (o : MOwn) (code : Int) (e : Ending) (w' : World) : Prop :=
  ∃ o', e = .returned (.int .i64 code) ∧ MAt w' B c s K o' ∧ Turned o o' w w' ∧ o'.b = o.b

theorem blocks_gather {w1 w2 : World} {ob : Obj} {a r : Int} {gg cap : Nat} (h : MAt w1 B c s K o) (hb : Below w.heap.size w w1) (hown : Own w2 B 45 2 gg cap (s.blocks.length + 1) (pairCells s.blocks ++ [.int .i64 a, .int .i64 r]))
    (hg : ((w1.alloc ob).drew).grownBy w2 (Value.slice (some ⟨o.gb, 0, none⟩) s.blocks.length o.cb).ownBlock) (hat : (Value.slice (some ⟨o.gb, 0, none⟩) s.blocks.length o.cb).ownBlock = some gg ∨ gg = w1.heap.size + 1) :
    ∃ g1 cap', MAt (w2.setCell ⟨o.b, 3, none⟩ (.slice (some ⟨gg, 0, none⟩) (s.blocks.length + 1) cap)) B c { s with blocks := s.blocks ++ [(a, r)] } K { o with gb := g1, cb := cap' } ∧ Turned o { o with gb := g1, cb := cap' } w (w2.setCell ⟨o.b, 3, none⟩ (.slice (some ⟨gg, 0, none⟩) (s.blocks.length + 1) cap)) := by
  obtain ⟨h1, h2⟩ := blocks_more h hown hg hat
  exact ⟨gg, cap, h1, (Turned.of_below hb).trans h2⟩

set_option maxHeartbeats 400000 in
theorem behind_ok (h : MAt w B c s K o) (hw : WF c s) (x : Say) (k : Nat) (hk : x.block = k) (hkl : k < s.blocks.length) (hr : rnd s k < x.round) (hr' : x.round ≤ 1000) (hc : certified c s k = true) (hf : s.blocks.length < 40) :
    Calls Tryd.prog 31 #[.pointer (some ⟨o.b, 0, none⟩), sayV x] w (Did w B c { s with blocks := s.blocks ++ [((k : Int), x.round)], votes := s.votes ++ [0] } K o 0) := by
  have hB := Lib.hid (show isBlock s k = true by simp [isBlock, hkl])
  obtain ⟨kind, who, block, round, high⟩ := x
  simp only at hk hr hr'
  subst hk
  have c3 := h.c3
  have cr := h.rnd hkl
  have lb := h.blk.lt
  have lgb := h.ob.lt
  have hM := Lib.hid (h.alloc (.cells #[.int .i64 kind, .int .i64 who, .int .i64 k, .int .i64 round, .int .i64 high] 47))
  have hC := Lib.hid hc
  have hF : ((s.blocks.length : Int) == 40) = false := by simp; omega
  have hfb := Lib.hid h.blk.frozen
  obtain ⟨i0, hi0, hz0, hz1, hz2⟩ := info_parts info_block
  clear hc
  unfold sayV
  go_enter Tryd.func31, Tryd.ntmps31
  go_wp2_with fail
  go_quiet ((go_at_call 43; exact quiet_left (block_is (hM.out.drewN _) hB.out)))
  go_wp2_with (go_at_call 18; refine (cert_is (hM.out.drewN _) hw hkl hC.out).mono ?_; rintro e w' ⟨rfl, n2, rfl⟩)
  have s2 : ((w.alloc (.cells #[.int .i64 kind, .int .i64 who, .int .i64 k, .int .i64 round, .int .i64 high] 47)).drewN (nq + n2)).cell? ⟨w.heap.size, 2, none⟩ = some (.int .i64 k) := by simp
  have s3 : ((w.alloc (.cells #[.int .i64 kind, .int .i64 who, .int .i64 k, .int .i64 round, .int .i64 high] 47)).drewN (nq + n2)).cell? ⟨w.heap.size, 3, none⟩ = some (.int .i64 round) := by simp
  have hM1 := Lib.hid (hM.out.drewN (nq + n2))
  have hbel := Lib.hid (below_drewN ((Below.refl w.heap.size w).alloc (Nat.le_refl _) (.cells #[.int .i64 kind, .int .i64 who, .int .i64 k, .int .i64 round, .int .i64 high] 47)) (nq + n2))
  generalize (w.alloc (.cells #[.int .i64 kind, .int .i64 who, .int .i64 k, .int .i64 round, .int .i64 high] 47)).drewN (nq + n2) = w1 at s2 s3 hM1 hbel ⊢
  clear c3 cr lb lgb hM hfb
  have h1 := hM1.out
  have c3 := h1.c3
  have lb := h1.blk.lt
  have lgb := h1.ob.lt
  have hown := Lib.hid h1.ob
  have hfz := h1.blk.frozen 3
  have lbs := World.block_lt_of_cell? w1 _ s2
  simp only at lbs
  have hne : o.b ≠ o.gb := fun e => h1.ob.ne_blk h1.blk (by decide) e.symm
  have hbge := h1.ob.ge
  clear h1 h
  go_cut [54] (fun v wr => ∃ g1 cap, MAt wr B c { s with blocks := s.blocks ++ [((k : Int), round)] } K { o with gb := g1, cb := cap } ∧ Turned o { o with gb := g1, cb := cap } w wr)
  case first =>
    go_region_law ((refine step_append_lies _ rfl (.tmp 47) (.tmp 53) 27 rfl B 45 i0 (.agg #[.int .i64 0, .int .i64 0]) 2 16 Tryd.underlying27 hi0 hz0 hz1 hz2 rfl (by omega) (.slice (some ⟨o.gb, 0, none⟩) s.blocks.length o.cb) s.blocks.length (pairCells s.blocks) (by rfl) ((hown.out.alloc _).drew) ⟨w1.heap.size, 0, none⟩ 1 1 [.int .i64 k, .int .i64 round] (by rfl) (by rfl) (World.news_of_block (cs := #[.int .i64 k, .int .i64 round]) (t := 45) (fr := (0, 0)) (heap_alloc_new w1 _)) (by simp [Value.oneCell']) (by omega) (by unfold maxLen; omega) (by omega) (by simp; omega) (w1.heap.size + 1) (by simp) ?_; intro gg cap w2 hown1 hgrow hat hlt; have k3 := grown_c3 hgrow lb hne c3; have f3 := grown_f3 hgrow lb hne hfz))
    all_goals go_wp2_with fail
    all_goals go_meet
    all_goals exact blocks_gather hM1.out hbel.out hown1 hgrow hat
  case rest =>
    obtain ⟨g1, cap1, hM2, hT2⟩ := hcut
    have c4 := hM2.c4
    have lb2 := hM2.blk.lt
    have hown2 := Lib.hid hM2.ov
    have hfz2 := hM2.blk.frozen 4
    have hne2 : o.b ≠ o.gv := fun e => hM2.ov.ne_blk hM2.blk (by decide) e.symm
    have hbge2 := hM2.ov.ge
    have hlt2 := hM2.ov.lt
    have hvl := hw.vlen
    have HM2 := Lib.hid hM2
    have HT2 := Lib.hid hT2
    obtain ⟨i1, hi1, hy0, hy1, hy2⟩ := info_parts info_u32
    have hvlen : s.votes.length < 40 := by omega
    clear hM2 hT2 hvl
    go_wp2_with (at_builtin; refine wpList_append_lies _ rfl (.tmp 61) (.tmp 62) 65 rfl B 22 i1 (.int .u32 0) 1 4 Tryd.underlying65 hi1 hy0 hy1 hy2 rfl (by omega) (.slice (some ⟨o.gv, 0, none⟩) s.votes.length o.cv) s.votes.length (wordCells s.votes) (by rfl) (hown2.out.alloc _) ⟨wc.heap.size, 0, none⟩ 1 1 [.int .u32 0] (by rfl) (by rfl) (World.news_of_block (cs := #[.int .u32 0]) (t := 22) (fr := (0, 0)) (heap_alloc_new wc _)) (by simp [Value.oneCell']) (by omega) (by unfold maxLen; omega) (by omega) (by simp; omega) (wc.heap.size + 1) (by simp) ?_; intro gv cv w2 hown1 hgrow hat hlt; have k3 := grown_c4 hgrow lb2 hne2 c4; have f3 := grown_f4 hgrow lb2 hne2 hfz2)
    go_ret
    have hfin := votes_gather HM2.out HT2.out hown1 hgrow hat
    exact ⟨_, rfl, hfin.1, hfin.2, rfl⟩
end
end Go.Proofs.YtkcekjpohpenkaaDoor
