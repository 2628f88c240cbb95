import Derived.Test.YtkcekjpohpenkaaDoorMc
import Derived.Deep.AppendLies
import Derived.Deep.RegionHeld3
set_option linter.unusedVariables false
set_option linter.unusedSimpArgs false
namespace Go.Proofs.YtkcekjpohpenkaaDoor
open Go.RowKit Mo
open Go.Maps (Keyed)

/-! ### what the assembly's struct and all that it leads to hold -/
def Blk (w : World) (g : Nat) (t : TypeId) (cs : Array Value) : Prop := w.heap[g]? = some (.cells cs t (0, 0))
section
variable {w w' : World} {g : Nat} {t : TypeId} {cs : Array Value}
theorem Blk.lt (h : Blk w g t cs) : g < w.heap.size := by
  rcases Nat.lt_or_ge g w.heap.size with hlt | hge
  · exact hlt
  · unfold Blk at h; rw [Array.getElem?_eq_none hge] at h; cases h
theorem Blk.cell (h : Blk w g t cs) (i : Nat) : w.cell? ⟨g, i, none⟩ = cs[i]? := cell_of_row w g i cs t (0, 0) h
theorem Blk.frozen (h : Blk w g t cs) (i : Nat) : w.frozen? ⟨g, i, none⟩ = false := by
  unfold Blk at h
  simp [World.frozen?, h]
theorem Blk.new (w : World) (t : TypeId) (cs : Array Value) : Blk (w.alloc (.cells cs t)) w.heap.size t cs := heap_alloc_new w _
theorem Blk.alloc (h : Blk w g t cs) (o : Obj) : Blk (w.alloc o) g t cs := (Below.heap_alloc w o g h.lt).trans h
theorem Blk.set_ (h : Blk w g t cs) (i : Nat) (u : Value) : Blk (w.setCell ⟨g, i, none⟩ u) g t (cs.setIfInBounds i u) := by
  unfold Blk at h ⊢
  simp [World.setCell, Array.getElem?_modify, h]
theorem Blk.far (h : Blk w g t cs) {p : Addr} (hp : g ≠ p.block) (u : Value) : Blk (w.setCell p u) g t cs := (Below.heap_setCell w p u g hp).trans h
theorem Blk.below {B : Nat} (h : Blk w g t cs) (hb : Below B w w') (hg : g < B) : Blk w' g t cs := (hb.block g hg).trans h
theorem Blk.grown {row : Option Nat} (h : Blk w g t cs) (hb : w.grownBy w' row) (hg : some g ≠ row) : Blk w' g t cs := (hb.block g h.lt hg).trans h
theorem Blk.ne_ {g' : Nat} {t' : TypeId} {cs' : Array Value} (h : Blk w g t cs) (h' : Blk w g' t' cs') (hne : t ≠ t') : g ≠ g' := by
  rintro rfl
  unfold Blk at h h'
  rw [h] at h'
  injection h' with h'
  injection h' with _ ht
  exact hne ht
end

/-- a row of the call's own: 'n' elements of 'size' cells at the head of block g -/
abbrev Own (w : World) (B : Nat) (e : TypeId) (size g cap n : Nat) (xs : List Value) : Prop := w.ownsRow B e size (.slice (some ⟨g, 0, none⟩) n cap) n xs
section
variable {w w' : World} {B : Nat} {e : TypeId} {size g cap n : Nat} {xs : List Value}
theorem Own.blk (h : Own w B e size g cap n xs) : ∃ cur, Blk w g e cur ∧ B ≤ g := by
  rcases h.2 with ⟨h', _⟩ | ⟨g', cap', cur, h', hb, hg, _⟩
  · simp at h'
  · simp only [Value.slice.injEq, Option.some.injEq, Addr.mk.injEq, and_true, true_and] at h'
    obtain ⟨rfl, rfl⟩ := h'
    exact ⟨cur, hg, hb⟩
theorem Own.lt (h : Own w B e size g cap n xs) : g < w.heap.size := h.blk.choose_spec.1.lt
theorem Own.ge (h : Own w B e size g cap n xs) : B ≤ g := h.blk.choose_spec.2
theorem Own.ne_blk (h : Own w B e size g cap n xs) {g' : Nat} {t' : TypeId} {cs' : Array Value} (h' : Blk w g' t' cs') (hne : e ≠ t') : g ≠ g' := by
  obtain ⟨cur, hb, _⟩ := h.blk
  exact hb.ne_ h' hne
theorem Own.ne_own (h : Own w B e size g cap n xs) {B' size' g' cap' n' : Nat} {e' : TypeId} {xs' : List Value} (h' : Own w B' e' size' g' cap' n' xs') (hne : e ≠ e') : g ≠ g' := by
  obtain ⟨cur, hb, _⟩ := h'.blk
  exact h.ne_blk hb hne
theorem Own.cell (h : Own w B e size g cap n xs) {j : Nat} {v : Value} (hv : xs[j]? = some v) : w.cell? ⟨g, j, none⟩ = some v := by
  have hj : j < n * size := by rw [← h.1]; exact (List.getElem?_eq_some_iff.1 hv).1
  rw [World.ownsRow.cellAt h j hj, hv]
theorem Own.same (h : Own w B e size g cap n xs) (hb : w'.heap[g]? = w.heap[g]?) : Own w' B e size g cap n xs := by
  refine ⟨h.1, ?_⟩
  rcases h.2 with hn | ⟨g', cap', cur, h', hbb, hgg, rest⟩
  · exact .inl hn
  · refine .inr ⟨g', cap', cur, h', hbb, ?_, rest⟩
    simp only [Value.slice.injEq, Option.some.injEq, Addr.mk.injEq, and_true, true_and] at h'
    obtain ⟨rfl, rfl⟩ := h'
    rw [hb]
    exact hgg
theorem Own.le (h : Own w B e size g cap n xs) : n ≤ cap := by
  rcases h.2 with ⟨h', _⟩ | ⟨g', cap', cur, h', hbb, hgg, hle, _⟩
  · simp at h'
  · simp only [Value.slice.injEq, Option.some.injEq, Addr.mk.injEq, and_true, true_and] at h'
    obtain ⟨rfl, rfl⟩ := h'
    exact hle
end

/-! ### lists of pairs of numbers as cells -/
def pairCells (l : List (Int × Int)) : List Value := l.flatMap fun p => [.int .i64 p.1, .int .i64 p.2]
theorem pairCells_length (l : List (Int × Int)) : (pairCells l).length = l.length * 2 := by
  induction l with
  | nil => rfl
  | cons p r ih => simp [pairCells] at ih ⊢; omega
theorem pairCells_cons (p : Int × Int) (r : List (Int × Int)) : pairCells (p :: r) = .int .i64 p.1 :: .int .i64 p.2 :: pairCells r := rfl
theorem pairCells_append (l r : List (Int × Int)) : pairCells (l ++ r) = pairCells l ++ pairCells r := by simp [pairCells]
theorem pairCells_fst : ∀ (l : List (Int × Int)) (i : Nat), i < l.length → (pairCells l)[i * 2]? = some (.int .i64 (l.getD i (0, 0)).1)
  | p :: r, 0, _ => by simp [pairCells_cons]
  | p :: r, i + 1, h => by
    rw [pairCells_cons, show (i + 1) * 2 = i * 2 + 1 + 1 by omega]
    simpa using pairCells_fst r i (by simpa using h)
theorem pairCells_snd : ∀ (l : List (Int × Int)) (i : Nat), i < l.length → (pairCells l)[i * 2 + 1]? = some (.int .i64 (l.getD i (0, 0)).2)
  | p :: r, 0, _ => by simp [pairCells_cons]
  | p :: r, i + 1, h => by
    rw [pairCells_cons, show (i + 1) * 2 + 1 = i * 2 + 1 + 1 + 1 by omega]
    simpa using pairCells_snd r i (by simpa using h)
theorem pairCells_set_fst : ∀ (l : List (Int × Int)) (i : Nat) (a : Int), i < l.length → (pairCells l).set (i * 2) (.int .i64 a) = pairCells (l.set i (a, (l.getD i (0, 0)).2))
  | p :: r, 0, a, _ => by simp [pairCells_cons]
  | p :: r, i + 1, a, h => by
    have := pairCells_set_fst r i a (by simpa using h)
    rw [pairCells_cons, show (i + 1) * 2 = i * 2 + 1 + 1 by omega]
    simp [pairCells_cons, this]
theorem pairCells_set_snd : ∀ (l : List (Int × Int)) (i : Nat) (a : Int), i < l.length → (pairCells l).set (i * 2 + 1) (.int .i64 a) = pairCells (l.set i ((l.getD i (0, 0)).1, a))
  | p :: r, 0, a, _ => by simp [pairCells_cons]
  | p :: r, i + 1, a, h => by
    have := pairCells_set_snd r i a (by simpa using h)
    rw [pairCells_cons, show (i + 1) * 2 + 1 = i * 2 + 1 + 1 + 1 by omega]
    simp [pairCells_cons, this]
def wordCells (l : List Nat) : List Value := l.map fun x : Nat => Value.int .u32 (x : Int)
theorem wordCells_at (l : List Nat) (i : Nat) (h : i < l.length) : (wordCells l)[i]? = some (.int .u32 ((l.getD i 0 : Nat) : Int)) := by
  simp [wordCells, h]

/-- block m holds the map of who gave which round up, and how often -/
def GaveAt (w : World) (m : Nat) (L : List (Int × Int)) (K : Nat) : Prop :=
  ∃ n D, n ≤ K ∧ w.ownsMap Tryd.prog 106 (plainElem (H := Unit) Tryd.prog 3) m n D ∧
    ∀ (x : Int × Int) kl, keyOf Tryd.prog 106 (av x.1 x.2) = some kl → ∃ c : Nat, D.atKey kl (.lit (.int .i64 0)) = .lit (.int .i64 c) ∧ c ≤ K ∧ (0 < c ↔ x ∈ L)

structure MOwn where
  b : Nat
  gb : Nat
  cb : Nat
  gv : Nat
  cv : Nat
  gm : Nat
  cm : Nat
  lm : Nat
  gg : Nat
def MOwn.cells (o : MOwn) (c : Cfg) (s : St) : Array Value :=
  #[.int .i64 c.n, .int .i64 c.need, .int .u32 c.liars, .slice (some ⟨o.gb, 0, none⟩) s.blocks.length o.cb, .slice (some ⟨o.gv, 0, none⟩) s.votes.length o.cv, .slice (some ⟨o.gm, 0, none⟩) s.members.length o.cm, .map (some o.lm), .map (some o.gg)]
structure MAt (w : World) (B : Nat) (c : Cfg) (s : St) (K : Nat) (o : MOwn) : Prop where
  blk : Blk w o.b 70 (o.cells c s)
  b : B ≤ o.b
  lm : B ≤ o.lm
  gg : B ≤ o.gg
  ne : o.lm ≠ o.gg
  ob : Own w B 45 2 o.gb o.cb s.blocks.length (pairCells s.blocks)
  ov : Own w B 22 1 o.gv o.cv s.votes.length (wordCells s.votes)
  om : Own w B 103 2 o.gm o.cm s.members.length (pairCells s.members)
  late : LateAt w o.lm s.late K
  gave : GaveAt w o.gg s.gave K

def MOwn.has (o : MOwn) (k : Nat) : Prop := k = o.b ∨ k = o.gb ∨ k = o.gv ∨ k = o.gm ∨ k = o.lm ∨ k = o.gg
/-- w' is w but for the assembly's own blocks, and new ones -/
structure Turned (o o' : MOwn) (w w' : World) : Prop where
  os : w'.os = w.os
  tape : w'.tape = w.tape
  output : w'.output = w.output
  size : w.heap.size ≤ w'.heap.size
  block : ∀ k, k < w.heap.size → ¬ o.has k → w'.heap[k]? = w.heap[k]?
  new : ∀ k, o'.has k → o.has k ∨ w.heap.size ≤ k

section
variable {w w' w'' : World} {o o' o'' : MOwn}
theorem Turned.of_below (h : Below w.heap.size w w') : Turned o o w w' := ⟨h.os, h.tape, h.output, h.size, fun k hk _ => h.block k hk, fun _ hk => .inl hk⟩
theorem Turned.trans (h : Turned o o' w w') (h' : Turned o' o'' w' w'') : Turned o o'' w w'' := by
  refine ⟨h'.os.trans h.os, h'.tape.trans h.tape, h'.output.trans h.output, Nat.le_trans h.size h'.size, fun k hk hn => ?_, fun k hk => ?_⟩
  · refine (h'.block k (Nat.lt_of_lt_of_le hk h.size) fun hh => ?_).trans (h.block k hk hn)
    rcases h.new k hh with h1 | h1
    · exact hn h1
    · omega
  · rcases h'.new k hk with h1 | h1
    · exact h.new k h1
    · exact .inr (Nat.le_trans h.size h1)
theorem Turned.of_grown {g : Nat} (h : w.grownBy w' (some g)) (hg : o.has g) : Turned o o w w' :=
  ⟨h.os, h.tape, h.output, h.size, fun k hk hn => h.block k hk (fun e => by cases e; exact hn hg), fun _ hk => .inl hk⟩
end

section
variable {w w' : World} {B K : Nat} {c : Cfg} {s : St} {o : MOwn}
theorem MAt.has_lt (h : MAt w B c s K o) {k : Nat} (hk : o.has k) : k < w.heap.size ∧ B ≤ k := by
  obtain ⟨n, D, _, hl, _⟩ := h.late
  obtain ⟨n', D', _, hg, _⟩ := h.gave
  rcases hk with rfl | rfl | rfl | rfl | rfl | rfl
  · exact ⟨h.blk.lt, h.b⟩
  · exact ⟨h.ob.lt, h.ob.ge⟩
  · exact ⟨h.ov.lt, h.ov.ge⟩
  · exact ⟨h.om.lt, h.om.ge⟩
  · exact ⟨hl.lt, h.lm⟩
  · exact ⟨hg.lt, h.gg⟩
/-- what is kept where the own blocks are -/
theorem MAt.keep (h : MAt w B c s K o) (hk : ∀ k, o.has k → w'.heap[k]? = w.heap[k]?) : MAt w' B c s K o := by
  obtain ⟨n, D, hn, ⟨es, cl, hb, hr⟩, hD⟩ := h.late
  obtain ⟨n', D', hn', ⟨es', cl', hb', hr'⟩, hD'⟩ := h.gave
  exact ⟨(hk _ (.inl rfl)).trans h.blk, h.b, h.lm, h.gg, h.ne, h.ob.same (hk _ (.inr (.inl rfl))), h.ov.same (hk _ (.inr (.inr (.inl rfl)))), h.om.same (hk _ (.inr (.inr (.inr (.inl rfl))))),
    ⟨n, D, hn, ⟨es, cl, (hk _ (.inr (.inr (.inr (.inr (.inl rfl)))))).trans hb, hr⟩, hD⟩, ⟨n', D', hn', ⟨es', cl', (hk _ (.inr (.inr (.inr (.inr (.inr rfl)))))).trans hb', hr'⟩, hD'⟩⟩
theorem MAt.below (h : MAt w B c s K o) (hb : Below w.heap.size w w') : MAt w' B c s K o := h.keep fun k hk => hb.block k (h.has_lt hk).1
theorem MAt.more (h : MAt w B c s K o) {K' : Nat} (hK : K ≤ K') : MAt w B c s K' o := by
  obtain ⟨n, D, hn, hl, hD⟩ := h.late
  obtain ⟨n', D', hn', hl', hD'⟩ := h.gave
  exact ⟨h.blk, h.b, h.lm, h.gg, h.ne, h.ob, h.ov, h.om, ⟨n, D, by omega, hl, hD⟩, ⟨n', D', by omega, hl', fun x kl hx => by obtain ⟨c, h1, h2, h3⟩ := hD' x kl hx; exact ⟨c, h1, by omega, h3⟩⟩⟩
theorem MAt.c0 (h : MAt w B c s K o) : w.cell? ⟨o.b, 0, none⟩ = some (.int .i64 c.n) := h.blk.cell 0
theorem MAt.c1 (h : MAt w B c s K o) : w.cell? ⟨o.b, 1, none⟩ = some (.int .i64 c.need) := h.blk.cell 1
theorem MAt.c2 (h : MAt w B c s K o) : w.cell? ⟨o.b, 2, none⟩ = some (.int .u32 c.liars) := h.blk.cell 2
theorem MAt.c3 (h : MAt w B c s K o) : w.cell? ⟨o.b, 3, none⟩ = some (.slice (some ⟨o.gb, 0, none⟩) s.blocks.length o.cb) := h.blk.cell 3
theorem MAt.c4 (h : MAt w B c s K o) : w.cell? ⟨o.b, 4, none⟩ = some (.slice (some ⟨o.gv, 0, none⟩) s.votes.length o.cv) := h.blk.cell 4
theorem MAt.c5 (h : MAt w B c s K o) : w.cell? ⟨o.b, 5, none⟩ = some (.slice (some ⟨o.gm, 0, none⟩) s.members.length o.cm) := h.blk.cell 5
theorem MAt.c6 (h : MAt w B c s K o) : w.cell? ⟨o.b, 6, none⟩ = some (.map (some o.lm)) := h.blk.cell 6
theorem MAt.c7 (h : MAt w B c s K o) : w.cell? ⟨o.b, 7, none⟩ = some (.map (some o.gg)) := h.blk.cell 7
theorem MAt.par (h : MAt w B c s K o) {i : Nat} (hi : i < s.blocks.length) : w.cell? ⟨o.gb, i * 2, none⟩ = some (.int .i64 (par s i)) := h.ob.cell (pairCells_fst _ i hi)
theorem MAt.rnd (h : MAt w B c s K o) {i : Nat} (hi : i < s.blocks.length) : w.cell? ⟨o.gb, i * 2 + 1, none⟩ = some (.int .i64 (rnd s i)) := h.ob.cell (pairCells_snd _ i hi)
theorem MAt.vote (h : MAt w B c s K o) {i : Nat} (hi : i < s.votes.length) : w.cell? ⟨o.gv, i, none⟩ = some (.int .u32 ((s.votes.getD i 0 : Nat) : Int)) := h.ov.cell (wordCells_at _ i hi)
theorem MAt.voted (h : MAt w B c s K o) {i : Nat} (hi : i < s.members.length) : w.cell? ⟨o.gm, i * 2, none⟩ = some (.int .i64 (voted s i)) := h.om.cell (pairCells_fst _ i hi)
theorem MAt.knows (h : MAt w B c s K o) {i : Nat} (hi : i < s.members.length) : w.cell? ⟨o.gm, i * 2 + 1, none⟩ = some (.int .i64 (knows s i)) := h.om.cell (pairCells_snd _ i hi)
end

end Go.Proofs.YtkcekjpohpenkaaDoor
