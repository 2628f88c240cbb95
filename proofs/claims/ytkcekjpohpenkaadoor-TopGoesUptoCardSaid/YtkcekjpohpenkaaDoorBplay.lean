import Derived.Test.YtkcekjpohpenkaaDoorBk
/- book.Play: one book for all. -/
set_option linter.unusedVariables false
set_option linter.unusedSimpArgs false
set_option maxRecDepth 100000
namespace Go.Proofs.YtkcekjpohpenkaaDoor
open Go.RowKit Mo

/-! ### pays as cells -/
def payCells (ps : List Lg.Pay) : List Value := ps.flatMap fun p => [.int .i64 p.src, .int .i64 p.dst, .int .i64 p.ser, .int .i64 p.n]
theorem payCells_length : ∀ l : List Lg.Pay, (payCells l).length = l.length * 4
  | [] => rfl
  | x :: r => by
    have := payCells_length r
    unfold payCells at this ⊢
    simp only [List.flatMap_cons, List.length_append, List.length_cons, List.length_nil, this]
    omega
theorem payCells_append (l r : List Lg.Pay) : payCells (l ++ r) = payCells l ++ payCells r := by simp [payCells]
theorem payCells_at : ∀ (l : List Lg.Pay) (i : Nat) (x : Lg.Pay), l[i]? = some x →
    (payCells l)[i * 4]? = some (.int .i64 x.src) ∧ (payCells l)[i * 4 + 1]? = some (.int .i64 x.dst) ∧ (payCells l)[i * 4 + 2]? = some (.int .i64 x.ser) ∧ (payCells l)[i * 4 + 3]? = some (.int .i64 x.n)
  | [], i, x, h => by simp at h
  | y :: r, 0, x, h => by
    simp at h
    subst h
    exact ⟨rfl, rfl, rfl, rfl⟩
  | y :: r, i + 1, x, h => by
    have := payCells_at r i x (by simpa using h)
    have e : ∀ j, (payCells (y :: r))[(i + 1) * 4 + j]? = (payCells r)[i * 4 + j]? := by
      intro j
      show (([_, _, _, _] : List Value) ++ payCells r)[_]? = _
      rw [List.getElem?_append_right (by simp; omega)]
      congr 1
      simp
      omega
    have e0 := e 0
    simp only [Nat.add_zero] at e0
    rw [e0, e, e, e]
    exact this
theorem payCells_one (l : List Lg.Pay) : ∀ u ∈ payCells l, u.oneCell' = true := by
  intro u hu
  obtain ⟨x, _, hx⟩ := List.mem_flatMap.1 hu
  simp only [List.mem_cons, List.not_mem_nil, or_false] at hx
  rcases hx with rfl | rfl | rfl | rfl <;> rfl
/-- pays of the call's own, to be read -/
theorem own_pays {w : World} {B c : Nat} {x : Option Addr} {ps : List Lg.Pay} (h : w.ownsRow B 41 4 (.slice x ps.length c) ps.length (payCells ps)) : PRow w x ps := by
  refine ⟨fun i hi => ?_⟩
  obtain ⟨g', cap', hv, _, hlt⟩ := h.form (by omega)
  cases hv
  refine ⟨⟨g', 0, none⟩, rfl, hlt, fun p hp => ?_⟩
  obtain ⟨a0, a1, a2, a3⟩ := payCells_at ps i p hp
  have hc := h.cells (g := g') rfl
  exact ⟨hc _ _ a0, hc _ _ a1, hc _ _ a2, hc _ _ a3⟩
/-- the cells of pays that came in -/
theorem pays_cells {w : World} {ab : Addr} {l : List Lg.Pay} (h : PRow w (some ab) l) : ∀ j u, (payCells l)[j]? = some u → w.cell? (ab.add j) = some u := by
  intro j u hu
  have hj : j < (payCells l).length := (List.getElem?_eq_some_iff.1 hu).1
  rw [payCells_length] at hj
  have hi : j / 4 < l.length := by omega
  obtain ⟨b, hb, _, hx⟩ := h.row (j / 4) hi
  cases hb
  have hxl : l[j / 4]? = some l[j / 4] := List.getElem?_eq_getElem hi
  obtain ⟨c0, c1, c2, c3⟩ := hx _ hxl
  obtain ⟨a0, a1, a2, a3⟩ := payCells_at l (j / 4) _ hxl
  have hm : j = j / 4 * 4 ∨ j = j / 4 * 4 + 1 ∨ j = j / 4 * 4 + 2 ∨ j = j / 4 * 4 + 3 := by omega
  rcases hm with e | e | e | e
  · rw [e] at hu ⊢; rw [a0] at hu; cases hu; exact c0
  · rw [e] at hu ⊢; rw [a1] at hu; cases hu; exact c1
  · rw [e] at hu ⊢; rw [a2] at hu; cases hu; exact c2
  · rw [e] at hu ⊢; rw [a3] at hu; cases hu; exact c3

theorem info_pay : (Tryd.prog.info? 41).map (fun i => (i.zero, i.size, i.bytes)) = some (some (.agg #[.int .i64 0, .int .i64 0, .int .i64 0, .int .i64 0]), 4, 32) := by kernel_rfl

theorem run_append_nil {P : Program} (w : World) (base : Nat) (t ty e : TypeId) (i : TypeInfo) (size : Nat) (ht : P.underlying t = some (.slice e)) (hi : P.info? e = some i)
    (v : Value) (n : Nat) (xs : List Value) (hown : w.ownsRow base e size v n xs) (c : Nat) : (Builtin.append_ #[t, t] ty #[v, .slice none 0 c]).run P w = .ok v w := by
  rcases hown.2 with ⟨rfl, rfl⟩ | ⟨g, cap, cur, rfl, _, _, hnc, _⟩
  · simp [Builtin.append_, run_underlying ht, sizeOf, typeInfo, hi, Builtin.lenOf, Builtin.firstCells]
  · simp [Builtin.append_, run_underlying ht, sizeOf, typeInfo, hi, Builtin.lenOf, Builtin.firstCells, hnc, storeCells]

/-- pays that came in, appended, at a step of a region that draws -/
theorem step_append_pays {w : World} {ops : Array Oper} {o : Oper} {a : Act} {K : Act → World → Prop} {Q : Exit → Act → World → Prop} {E : Prop} (hgd : o.guard = none) (s x : Operand)
    (ho : o.op = .call { callee := .builtin .append, args := #[s, x], argTypes := #[31, 31] })
    (base : Nat) (v : Value) (n : Nat) (xs : List Value) (hs : a.eval s = v) (hown : w.ownsRow base 41 4 v n xs) (A : Option Addr) (cap : Nat) (l : List Lg.Pay) (hx : a.eval x = .slice A l.length cap) (hr : PRow w A l)
    (hn : n + l.length ≤ 1000000000) (hbase : base ≤ w.heap.size)
    (h : ∀ y c w', w'.ownsRow base 41 4 (.slice y (n + l.length) c) (n + l.length) (xs ++ payCells l) → w.grownBy w' v.ownBlock → K (a.put o.dst (.slice y (n + l.length) c)) w') :
    if Region.wanted o (yielded ops a.tmps) = true then Oper.wp Tryd.prog o a w K Q else E := by
  have hw : Region.wanted o (yielded ops a.tmps) = true := by simp [Region.wanted, hgd]
  rw [if_pos hw]
  obtain ⟨i0, hi0, hz0, hz1, hz2⟩ := info_parts info_pay
  cases A with
  | none =>
    have h0 : l = [] := by
      cases l with
      | nil => rfl
      | cons y r => obtain ⟨b, hb, _⟩ := hr.row 0 (by simp); cases hb
    subst h0
    have hrun := run_append_nil (P := Tryd.prog) w base 31 o.type 41 i0 4 Tryd.underlying31 hi0 v n xs hown cap
    have hrow : w.ownsRow base 41 4 v (n + 0) (xs ++ payCells []) := by simpa [payCells] using hown
    obtain ⟨y, c, rfl⟩ := row_len hown
    have hx0 : a.eval x = .slice none 0 cap := hx
    unfold Oper.wp execOp
    simp only [ho, resolve, invoke, builtin, Sem.run_bind, Sem.run_pure, Result.andThen_ok, List.map_toArray, List.map_cons, List.map_nil, hs, hx0, hrun]
    exact h y c w hrow (World.grownBy.refl w _)
  | some ab =>
    refine wp_append_own w s x 31 ho base 41 i0 _ 4 32 Tryd.underlying31 hi0 hz0 hz1 hz2 rfl (by omega) v n xs hs hown ab l.length cap (payCells l) hx (payCells_length l) (pays_cells hr) (payCells_one l) (by unfold maxLen; omega) (by omega) hbase ?_
    intro v' w' h1 h2 _
    obtain ⟨y, c, rfl⟩ := row_len h1
    exact h y c w' h1 h2

/-- pays of blocks, to be read -/
structure PPRow (w : World) (a : Option Addr) (pp : List (List Lg.Pay)) : Prop where
  row : ∀ i : Nat, i < pp.length → ∃ b : Addr, a = some b ∧ b.block < w.heap.size ∧ ∃ A c, w.cell? (b.add i) = some (.slice A (pp.getD i []).length c) ∧ PRow w A (pp.getD i [])
  sml : ∀ i : Nat, (pp.getD i []).length ≤ 1048576
theorem PPRow.later {w w' : World} {a : Option Addr} {pp : List (List Lg.Pay)} (h : PPRow w a pp) (hb : Below w.heap.size w w') : PPRow w' a pp :=
  ⟨fun i hi => by
    obtain ⟨b, rfl, hlt, A, c, hc, hp⟩ := h.row i hi
    exact ⟨b, rfl, Nat.lt_of_lt_of_le hlt hb.size, A, c, (hb.cell (p := b.add i) (by rw [addr_block]; exact hlt)).trans hc, hp.later hb⟩, h.sml⟩

/-- what the blocks on a path pay -/
def gather (pp : List (List Lg.Pay)) (p : List Nat) : List Lg.Pay := p.flatMap fun k => pp.getD k []
theorem gather_snoc (pp : List (List Lg.Pay)) (p : List Nat) (k : Nat) : gather pp (p ++ [k]) = gather pp p ++ pp.getD k [] := by simp [gather]
theorem gather_le (pp : List (List Lg.Pay)) (h : ∀ i, (pp.getD i []).length ≤ 1048576) : ∀ p : List Nat, (gather pp p).length ≤ p.length * 1048576
  | [] => by simp [gather]
  | k :: r => by
    have h1 := gather_le pp h r
    have h2 := h k
    have e : gather pp (k :: r) = pp.getD k [] ++ gather pp r := by simp [gather]
    rw [e, List.length_append, List.length_cons]
    omega
def paid (c : Cfg) (s : St) (pp : List (List Lg.Pay)) : List Lg.Pay := if lastTo c s s.blocks.length < 0 then [] else gather pp (path s.blocks (lastTo c s s.blocks.length))

def zeroBooked : Value := .agg #[.slice none 0 0, .slice none 0 0, .slice none 0 0, .slice none 0 0, .slice none 0 0, .slice none 0 0, .slice none 0 0]
def noBook : Array Value := #[.slice none 0 0, .slice none 0 0, .slice none 0 0, .slice none 0 0, .slice none 0 0, .slice none 0 0, .slice none 0 0]

theorem book_ret {w : World} {tmps : Array Value} {B : Nat} {c0 c1 c2 c3 c4 c5 c6 : Value} (h12 : tmps.getD 12 undef = .pointer (some ⟨B, 0, none⟩)) (hb : Blk w B 34 #[c0, c1, c2, c3, c4, c5, c6])
    (h0 : c0.oneCell' = true) (h1 : c1.oneCell' = true) (h2 : c2.oneCell' = true) (h3 : c3.oneCell' = true) (h4 : c4.oneCell' = true) (h5 : c5.oneCell' = true) (h6 : c6.oneCell' = true) :
    (results Tryd.f6 tmps).run Tryd.prog w = .ok (.tuple #[.agg #[c0, c1, c2, c3, c4, c5, c6], tmps.getD 13 undef]) w := by
  have e0 := hb.cell 0
  have e1 := hb.cell 1
  have e2 := hb.cell 2
  have e3 := hb.cell 3
  have e4 := hb.cell 4
  have e5 := hb.cell 5
  have e6 := hb.cell 6
  simp only [List.getElem?_toArray, List.getElem?_cons_zero, List.getElem?_cons_succ] at e0 e1 e2 e3 e4 e5 e6
  rw [results_cell_tmp rfl, h12]
  simp [go_sem, e0, e1, e2, e3, e4, e5, e6]

def put7 (w : World) (B : Nat) (c0 c1 c2 c3 c4 c5 c6 : Value) : World :=
  ((((((w.setCell ⟨B, 0, none⟩ c0).setCell ⟨B, 1, none⟩ c1).setCell ⟨B, 2, none⟩ c2).setCell ⟨B, 3, none⟩ c3).setCell ⟨B, 4, none⟩ c4).setCell ⟨B, 5, none⟩ c5).setCell ⟨B, 6, none⟩ c6
theorem set7 {w : World} {B : Nat} {t : TypeId} {a0 a1 a2 a3 a4 a5 a6 c0 c1 c2 c3 c4 c5 c6 : Value} (h : Blk w B t #[a0, a1, a2, a3, a4, a5, a6]) : Blk (put7 w B c0 c1 c2 c3 c4 c5 c6) B t #[c0, c1, c2, c3, c4, c5, c6] := by
  have h0 : Blk (w.setCell ⟨B, 0, none⟩ c0) B t #[c0, a1, a2, a3, a4, a5, a6] := h.set_ 0 c0
  have h1 : Blk ((w.setCell ⟨B, 0, none⟩ c0).setCell ⟨B, 1, none⟩ c1) B t #[c0, c1, a2, a3, a4, a5, a6] := h0.set_ 1 c1
  have h2 : Blk (((w.setCell ⟨B, 0, none⟩ c0).setCell ⟨B, 1, none⟩ c1).setCell ⟨B, 2, none⟩ c2) B t #[c0, c1, c2, a3, a4, a5, a6] := h1.set_ 2 c2
  have h3 : Blk ((((w.setCell ⟨B, 0, none⟩ c0).setCell ⟨B, 1, none⟩ c1).setCell ⟨B, 2, none⟩ c2).setCell ⟨B, 3, none⟩ c3) B t #[c0, c1, c2, c3, a4, a5, a6] := h2.set_ 3 c3
  have h4 : Blk (((((w.setCell ⟨B, 0, none⟩ c0).setCell ⟨B, 1, none⟩ c1).setCell ⟨B, 2, none⟩ c2).setCell ⟨B, 3, none⟩ c3).setCell ⟨B, 4, none⟩ c4) B t #[c0, c1, c2, c3, c4, a5, a6] := h3.set_ 4 c4
  have h5 : Blk ((((((w.setCell ⟨B, 0, none⟩ c0).setCell ⟨B, 1, none⟩ c1).setCell ⟨B, 2, none⟩ c2).setCell ⟨B, 3, none⟩ c3).setCell ⟨B, 4, none⟩ c4).setCell ⟨B, 5, none⟩ c5) B t #[c0, c1, c2, c3, c4, c5, a6] := h4.set_ 5 c5
  have h6 : Blk (((((((w.setCell ⟨B, 0, none⟩ c0).setCell ⟨B, 1, none⟩ c1).setCell ⟨B, 2, none⟩ c2).setCell ⟨B, 3, none⟩ c3).setCell ⟨B, 4, none⟩ c4).setCell ⟨B, 5, none⟩ c5).setCell ⟨B, 6, none⟩ c6) B t #[c0, c1, c2, c3, c4, c5, c6] := h5.set_ 6 c6
  exact h6
theorem below7 {w a : World} {B : Nat} {c0 c1 c2 c3 c4 c5 c6 : Value} {n : Nat} (h : Below n a w) (hn : n ≤ B := by first | exact Nat.le_refl _ | omega) : Below n a (put7 w B c0 c1 c2 c3 c4 c5 c6) :=
  ((((((h.setCell (p := ⟨B, 0, none⟩) hn c0).setCell (p := ⟨B, 1, none⟩) hn c1).setCell (p := ⟨B, 2, none⟩) hn c2).setCell (p := ⟨B, 3, none⟩) hn c3).setCell (p := ⟨B, 4, none⟩) hn c4).setCell (p := ⟨B, 5, none⟩) hn c5).setCell (p := ⟨B, 6, none⟩) hn c6
theorem heap7 {w : World} {B : Nat} {c0 c1 c2 c3 c4 c5 c6 : Value} {k : Nat} (hk : k ≠ B) : (put7 w B c0 c1 c2 c3 c4 c5 c6).heap[k]? = w.heap[k]? := by
  unfold put7
  rw [Below.heap_setCell _ _ _ k hk, Below.heap_setCell _ _ _ k hk, Below.heap_setCell _ _ _ k hk, Below.heap_setCell _ _ _ k hk, Below.heap_setCell _ _ _ k hk, Below.heap_setCell _ _ _ k hk, Below.heap_setCell _ _ _ k hk]
theorem size7 {w : World} {B : Nat} {c0 c1 c2 c3 c4 c5 c6 : Value} : (put7 w B c0 c1 c2 c3 c4 c5 c6).heap.size = w.heap.size := by simp [put7, World.setCell]
theorem MeetAt.keep {w w' : World} {c : Cfg} {s : St} {gb gc gd : Nat} (h : MeetAt w c s gb gc gd) (h1 : w'.heap[gb]? = w.heap[gb]?) (h2 : w'.heap[gc]? = w.heap[gc]?) (h3 : w'.heap[gd]? = w.heap[gd]?) (hs : w.heap.size ≤ w'.heap.size) : MeetAt w' c s gb gc gd :=
  ⟨⟨fun i hi => (World.cell?_of_block (a := ⟨gb, i * 2, none⟩) h1).trans (h.blocks.par i hi), fun i hi => (World.cell?_of_block (a := ⟨gb, i * 2 + 1, none⟩) h1).trans (h.blocks.rnd i hi), Nat.lt_of_lt_of_le h.blocks.gb hs⟩,
    fun i hi => (World.cell?_of_block (a := ⟨gc, i, none⟩) h2).trans (h.cert i hi), fun i hi => (World.cell?_of_block (a := ⟨gd, i, none⟩) h3).trans (h.dec i hi), Nat.lt_of_lt_of_le h.gc hs, Nat.lt_of_lt_of_le h.gd hs⟩
theorem row_base {w : World} {B B' size n : Nat} {e : TypeId} {v : Value} {xs : List Value} (h : w.ownsRow B e size v n xs) (hB : B' ≤ B) : w.ownsRow B' e size v n xs := by
  refine ⟨h.1, ?_⟩
  rcases h.2 with hn | ⟨g', cap', cur, h', hb, rest⟩
  · exact .inl hn
  · exact .inr ⟨g', cap', cur, h', Nat.le_trans hB hb, rest⟩

section
variable {w : World}
set_option maxHeartbeats 1000000 in
theorem book_err (n f : Int) (liars : Nat) (sv mv pv : Value) (code : Int) (hcode : code ≠ 0)
    (hp : ∀ w : World, Calls Tryd.prog 9 #[.int .i64 n, .int .i64 f, .int .u32 liars, sv] w fun e w' => e = .returned (.tuple #[zeroMeeting, .int .i64 code]) ∧ Below w.heap.size w w') :
    Calls Tryd.prog 6 #[.int .i64 n, .int .i64 f, .int .u32 liars, sv, mv, pv] w fun e w' => e = .returned (.tuple #[zeroBooked, .int .i64 code]) ∧ Below w.heap.size w w' := by
  have hP := Lib.hid (fun w => hp w)
  clear hp
  have hc1 : (code != 0) = true := by simpa using hcode
  unfold zeroMeeting at hP
  have hk0 := Lib.hid (Blk.new w 34 noBook)
  have hb0 := Lib.hid ((Below.refl w.heap.size w).alloc (Nat.le_refl _) (.cells noBook 34))
  unfold noBook at hk0 hb0
  go_enter Tryd.func6, Tryd.ntmps6
  go_wp2_with fail
  refine (hP.out _).mono ?_
  rintro e w1 ⟨rfl, hb1⟩
  have hr1 : Blk w1 _ _ _ := hk0.out.below hb1 hk0.out.lt
  have HB1 := Lib.hid (hb0.out.trans (hb1.mono hb0.out.size))
  have e0 := hr1.cell 0
  have e1 := hr1.cell 1
  have e2 := hr1.cell 2
  have e3 := hr1.cell 3
  have e4 := hr1.cell 4
  have e5 := hr1.cell 5
  have e6 := hr1.cell 6
  have f0 := hr1.frozen 0
  have f1 := hr1.frozen 1
  have f2 := hr1.frozen 2
  have f3 := hr1.frozen 3
  have f4 := hr1.frozen 4
  have f5 := hr1.frozen 5
  have f6 := hr1.frozen 6
  have lr := hr1.lt
  have HR1 := Lib.hid hr1
  simp only [List.getElem?_toArray, List.getElem?_cons_zero, List.getElem?_cons_succ] at e0 e1 e2 e3 e4 e5 e6
  clear hb1 hr1
  go_wp2_with fail
  refine bodyPost_ret (book_ret rfl ((set7 HR1.out).alloc _) rfl rfl rfl rfl rfl rfl rfl) rfl ⟨rfl, ?_⟩
  exact (below7 HB1.out).alloc (Nat.le_trans HB1.out.size (Nat.le_of_eq size7.symm)) _
end
end Go.Proofs.YtkcekjpohpenkaaDoor
