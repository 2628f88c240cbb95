import Derived.Test.YtkcekjpohpenkaaDoorMu
import Derived.Test.YtkcekjpohpenkaaDoorMw
import Derived.Carry
import Derived.Deep.RegionHeld3
import Derived.Deep.AppendLies
set_option linter.unusedVariables false
set_option linter.unusedSimpArgs false
namespace Go.Proofs.YtkcekjpohpenkaaDoor
open Go.RowKit Mo
attribute [local go_sem ↓] Go.wp_at_zero Go.wp_at_succ

theorem info_member : (Tryd.prog.info? 103).map (fun i => (i.zero, i.size, i.bytes)) = some (some (.agg #[.int .i64 0, .int .i64 0]), 2, 16) := by kernel_rfl

theorem info_errno : (Tryd.prog.info? 35).map (fun i => (i.zero, i.size, i.bytes)) = some (some (.int .i64 0), 1, 8) := by kernel_rfl

theorem info_bool : (Tryd.prog.info? 4).map (fun i => (i.zero, i.size, i.bytes)) = some (some (.bool false), 1, 1) := by kernel_rfl

theorem pairs_zero (n : Nat) (h : n ≤ 7) : (madeCells (Value.agg #[.int .i64 0, .int .i64 0]).cells (n * 2)) = (pairCells (List.replicate n (0, 0))).toArray := by
  have e1 : (madeCells (Value.agg #[.int .i64 0, .int .i64 0]).cells (n * 2)).toList = List.replicate (n * 2) (.int .i64 0) := by
    refine List.eq_replicate_iff.2 ⟨by simp [madeCells], fun v hv => ?_⟩
    have hz : (Value.agg #[.int .i64 0, .int .i64 0]).cells = #[.int .i64 0, .int .i64 0] := by simp [go_sem]
    rw [hz] at hv
    simp only [madeCells, Array.toList_map, List.mem_map] at hv
    obtain ⟨i, _, rfl⟩ := hv
    have : i % (#[Value.int .i64 0, .int .i64 0] : Array Value).size = 0 ∨ i % (#[Value.int .i64 0, .int .i64 0] : Array Value).size = 1 := by
      show i % 2 = 0 ∨ i % 2 = 1
      omega
    rcases this with e | e <;> rw [e] <;> rfl
  have e2 : pairCells (List.replicate n (0, 0)) = List.replicate (n * 2) (.int .i64 0) := by
    refine List.eq_replicate_iff.2 ⟨by rw [pairCells_length]; simp, fun v hv => ?_⟩
    obtain ⟨p, hp, hv⟩ := List.mem_flatMap.1 hv
    obtain rfl := List.eq_of_mem_replicate hp
    simpa using hv
  apply Array.toList_inj.1
  rw [e1, List.toList_toArray, e2]

theorem alloc_old {w : World} {k : Nat} {x : Obj} (h : w.heap[k]? = some x) (o : Obj) : (w.alloc o).heap[k]? = some x :=
  (Below.heap_alloc w o k (Array.getElem?_eq_some_iff.1 h).1).trans h
theorem alloc_at (w : World) (o : Obj) : (w.alloc o).heap[w.heap.size]? = some o := World.alloc_heap_new w o

theorem own_of {w : World} {B g cap n size : Nat} {e : TypeId} {xs : List Value} (hl : xs.length = n * size) (hB : B ≤ g) (hb : w.heap[g]? = some (.cells xs.toArray e (0, 0))) (hc : n = cap) (hm : cap ≤ maxLen) : Own w B e size g cap n xs :=
  ⟨hl, .inr ⟨g, cap, xs.toArray, rfl, hB, hb, by omega, hm, by subst hc; simpa using hl, by simp [← hl]⟩⟩

def startO (b n : Nat) : MOwn := { b := b + 1 + 1 + 1 + 1 + 1 + 1, gb := b + 1, cb := 1, gv := b + 1 + 1, cv := 1, gm := b + 1 + 1 + 1, cm := n, lm := b + 1 + 1 + 1 + 1, gg := b + 1 + 1 + 1 + 1 + 1 }

theorem start_at {w : World} {c : Cfg} (b : Nat) (h1 : 1 ≤ c.n) (h7 : c.n ≤ 7)
    (k1 : w.heap[b + 1]? = some (.cells #[.int .i64 (-1), .int .i64 0] 45 (0, 0))) (k2 : w.heap[b + 1 + 1]? = some (.cells #[.int .u32 0] 22 (0, 0)))
    (k3 : w.heap[b + 1 + 1 + 1]? = some (.cells (pairCells (List.replicate c.n (0, 0))).toArray 103 (0, 0))) (k4 : w.heap[b + 1 + 1 + 1 + 1]? = some (.map #[] 0)) (k5 : w.heap[b + 1 + 1 + 1 + 1 + 1]? = some (.map #[] 0))
    (k6 : w.heap[b + 1 + 1 + 1 + 1 + 1 + 1]? = some (.cells ((startO b c.n).cells c (Mo.start c)) 70 (0, 0))) : MAt w (b + 1) c (Mo.start c) 0 (startO b c.n) := by
  refine ⟨k6, by simp only [startO]; omega, by simp only [startO]; omega, by simp only [startO]; omega, by simp [startO], ?_, ?_, ?_, ?_, ?_⟩
  · exact own_of rfl (Nat.le_refl _) k1 rfl (by simp [startO, maxLen])
  · exact own_of rfl (by simp [startO]) k2 rfl (by simp [startO, maxLen])
  · refine own_of ?_ (by simp only [startO]; omega) ?_ ?_ (by simp [startO, maxLen]; omega)
    · rw [pairCells_length]
    · exact k3
    · simp [startO, Mo.start]
  · exact ⟨0, .map [], Nat.le_refl _, ⟨#[], 0, k4, ⟨by simp, ⟨by simp, by simp, by simp⟩, by simp⟩, Nat.le_refl _, rfl⟩, fun v kl _ => by simp [Maps.has, Mo.start]⟩
  · exact ⟨0, .map [], Nat.le_refl _, ⟨#[], 0, k5, ⟨by simp, ⟨by simp, by simp, by simp⟩, by simp⟩, Nat.le_refl _, rfl⟩, fun x kl _ => ⟨0, by rfl, Nat.le_refl _, by simp [Mo.start]⟩⟩

theorem MAt.not_has {w : World} {B K : Nat} {c : Cfg} {s : St} {o : MOwn} (h : MAt w B c s K o) {k : Nat} {t : TypeId} {cs : Array Value} (hb : Blk w k t cs) (h1 : t ≠ 70) (h2 : t ≠ 45) (h3 : t ≠ 22) (h4 : t ≠ 103) : ¬ o.has k := by
  rintro (rfl | rfl | rfl | rfl | rfl | rfl)
  · exact hb.ne_ h.blk h1 rfl
  · exact h.ob.ne_blk hb (Ne.symm h2) rfl
  · exact h.ov.ne_blk hb (Ne.symm h3) rfl
  · exact h.om.ne_blk hb (Ne.symm h4) rfl
  · obtain ⟨n, D, _, ⟨es, cl, hm, _⟩, _⟩ := h.late
    unfold Blk at hb
    rw [hb] at hm
    cases hm
  · obtain ⟨n, D, _, ⟨es, cl, hm, _⟩, _⟩ := h.gave
    unfold Blk at hb
    rw [hb] at hm
    cases hm

/-- a row that a call owns lies as it lay where no block of its type turns -/
theorem row_turned {w w' : World} {B size n : Nat} {e : TypeId} {v : Value} {xs : List Value} (h : w.ownsRow B e size v n xs) (hk : ∀ g cs, Blk w g e cs → w'.heap[g]? = w.heap[g]?) : w'.ownsRow B e size v n xs := by
  refine ⟨h.1, ?_⟩
  rcases h.2 with hn | ⟨g, cap, cur, hv, hb, hg, rest⟩
  · exact .inl hn
  · exact .inr ⟨g, cap, cur, hv, hb, (hk g cur hg).trans hg, rest⟩

def codeCells (l : List Int) : List Value := l.map fun x => Value.int .i64 x

/-- what holds in Play's first loop -/
structure PlayAt (w : World) (c : Cfg) (l : List Say) (k : Nat) (W : World) (s : St) (cod : Value) (o : MOwn) : Prop where
  st : (run c (Mo.start c) (l.take k)).1 = s
  wf : WF c s
  at_ : MAt W (w.heap.size + 1) c s (2 * k) o
  ob : o.b = w.heap.size + 1 + 1 + 1 + 1 + 1 + 1
  below : Below w.heap.size w W
  res : Blk W w.heap.size 30 #[.slice none 0 0, .slice none 0 0, .slice none 0 0, .slice none 0 0]
  out : Blk W (w.heap.size + 1 + 1 + 1 + 1 + 1 + 1 + 1) 30 #[cod, .slice none 0 0, .slice none 0 0, .slice none 0 0]
  codes : W.ownsRow (w.heap.size + 1) 35 1 cod k (codeCells (run c (Mo.start c) (l.take k)).2)

theorem row_blk {w : World} {B size n : Nat} {e : TypeId} {v : Value} {xs : List Value} (h : w.ownsRow B e size v n xs) {g : Nat} (hg : v.ownBlock = some g) : ∃ cs, Blk w g e cs := by
  rcases h.2 with ⟨rfl, _⟩ | ⟨g', cap, cur, rfl, hb, hgg, rest⟩
  · cases hg
  · cases hg
    exact ⟨cur, hgg⟩
theorem row_slice {w : World} {B size n : Nat} {e : TypeId} {v : Value} {xs : List Value} (h : w.ownsRow B e size v n xs) : ∃ x m c, v = .slice x m c := by
  rcases h.2 with ⟨rfl, _⟩ | ⟨g', cap, cur, rfl, _⟩
  · exact ⟨_, _, _, rfl⟩
  · exact ⟨_, _, _, rfl⟩
theorem row_ne {w : World} {B size n : Nat} {e t : TypeId} {v : Value} {xs : List Value} (h : w.ownsRow B e size v n xs) {g : Nat} {cs : Array Value} (hb : Blk w g t cs) (ht : e ≠ t) : some g ≠ v.ownBlock := by
  intro hg
  obtain ⟨cs', hb'⟩ := row_blk h hg.symm
  exact hb'.ne_ hb ht rfl

theorem turned_below {w w1 w2 : World} {B K : Nat} {c : Cfg} {s : St} {o o' : MOwn} (hb : Below w.heap.size w w1) (hM : MAt w1 B c s K o) (hB : w.heap.size ≤ B) (hT : Turned o o' w1 w2) : Below w.heap.size w w2 :=
  ⟨hT.os.trans hb.os, hT.tape.trans hb.tape, hT.output.trans hb.output, Nat.le_trans hb.size hT.size, fun k hk =>
    (hT.block k (Nat.lt_of_lt_of_le hk hb.size) fun hh => by have := (hM.has_lt hh).2; omega).trans (hb.block k hk)⟩

theorem drewN_twice (w : World) (a b : Nat) : (w.drewN a).drewN b = w.drewN (a + b) := by
  unfold World.drewN
  simp only [Nat.add_assoc]

def certs (c : Cfg) (s : St) (j : Nat) : List Bool := (List.range j).map (certified c s)
def boolL (l : List Bool) : List Value := l.map Value.bool
/-- what holds in Play's second loop -/
structure CertAt (w : World) (c : Cfg) (l : List Say) (s : St) (o : MOwn) (cod : Value) (j : Nat) (W : World) (cv : Value) : Prop where
  at_ : MAt W (w.heap.size + 1) c s (2 * l.length) o
  below : Below w.heap.size w W
  res : Blk W w.heap.size 30 #[.slice none 0 0, .slice none 0 0, .slice none 0 0, .slice none 0 0]
  out : Blk W (w.heap.size + 1 + 1 + 1 + 1 + 1 + 1 + 1) 30 #[cod, .slice none 0 0, cv, .slice none 0 0]
  codes : W.ownsRow (w.heap.size + 1) 35 1 cod l.length (codeCells (run c (Mo.start c) l).2)
  cert : W.ownsRow (w.heap.size + 1) 4 1 cv j (boolL (certs c s j))

theorem PlayAt.certs {w W : World} {c : Cfg} {l : List Say} {s : St} {cod : Value} {o : MOwn} (h : PlayAt w c l l.length W s cod o) : CertAt w c l s o cod 0 W (.slice none 0 0) := by
  have hc := h.codes
  rw [List.take_length] at hc
  exact ⟨h.at_, h.below, h.res, h.out, hc, World.ownsRow_nil _ _ _ _⟩

theorem cert_next {w W w3 : World} {c : Cfg} {l : List Say} {s : St} {o : MOwn} {cod cv : Value} {j gg cap : Nat} (h : CertAt w c l s o cod j W cv) {ob : Obj} {n : Nat} (hg : ((W.drewN n).alloc ob).grownBy w3 cv.ownBlock)
    (hown : w3.ownsRow (w.heap.size + 1) 4 1 (.slice (some ⟨gg, 0, none⟩) (j + 1) cap) (j + 1) (boolL (Go.Proofs.YtkcekjpohpenkaaDoor.certs c s j) ++ [.bool (certified c s j)])) :
    CertAt w c l s o cod (j + 1) (w3.setCell ⟨w.heap.size + 1 + 1 + 1 + 1 + 1 + 1 + 1, 2, none⟩ (.slice (some ⟨gg, 0, none⟩) (j + 1) cap)) (.slice (some ⟨gg, 0, none⟩) (j + 1) cap) := by
  have hk : ∀ k t cs, t ≠ 4 → Blk W k t cs → w3.heap[k]? = W.heap[k]? := fun k t cs ht hb =>
    (hg.block k (by have := hb.lt; simp; omega) (row_ne h.cert hb (Ne.symm ht))).trans (Below.heap_alloc (W.drewN n) ob k hb.lt)
  have hM3 : MAt w3 (w.heap.size + 1) c s (2 * l.length) o := h.at_.keep fun k hj => by
    have hlt := (h.at_.has_lt hj).1
    have hne : some k ≠ cv.ownBlock := fun e => by
      obtain ⟨cs, hb⟩ := row_blk h.cert e.symm
      exact h.at_.not_has hb (by decide) (by decide) (by decide) (by decide) hj
    exact (hg.block k (by simp; omega) hne).trans (Below.heap_alloc (W.drewN n) ob k hlt)
  have hout3 : Blk w3 _ _ _ := (hk _ _ _ (by decide) h.out).trans h.out
  have hres3 : Blk w3 _ _ _ := (hk _ _ _ (by decide) h.res).trans h.res
  refine ⟨?_, ?_, ?_, ?_, ?_, ?_⟩
  · refine (hM3.keep (w' := w3.setCell _ _) fun k hj => Below.heap_setCell w3 _ _ k ?_)
    rintro rfl
    exact hM3.not_has hout3 (by decide) (by decide) (by decide) (by decide) hj
  · refine Below.setCell ?_ (by simp; omega) _
    have hb := (below_drewN h.below n).alloc (by have := h.below.size; simpa using this) ob
    refine hb.grown hg hb.size fun k hj => ?_
    rcases h.cert.2 with ⟨rfl, _⟩ | ⟨g', cap', cur, rfl, hb', _⟩
    · cases hj
    · cases hj
      exact Nat.le_trans (Nat.le_succ _) hb'
  · exact hres3.far (by simp; omega) _
  · exact hout3.set_ 2 _
  · exact row_turned (row_turned h.codes fun g cs hgb => hk g _ cs (by decide) hgb) fun g cs hgb => Below.heap_setCell w3 _ _ g (by rintro rfl; exact hgb.ne_ hout3 (by decide) rfl)
  · have e : boolL (Go.Proofs.YtkcekjpohpenkaaDoor.certs c s (j + 1)) = boolL (Go.Proofs.YtkcekjpohpenkaaDoor.certs c s j) ++ [.bool (certified c s j)] := by simp [boolL, Go.Proofs.YtkcekjpohpenkaaDoor.certs, List.range_succ]
    rw [e]
    exact row_turned hown fun g cs hgb => Below.heap_setCell w3 _ _ g (by rintro rfl; exact hgb.ne_ hout3 (by decide) rfl)

/-- what lies when all is told but for what is decided -/
structure LastAt (w : World) (c : Cfg) (l : List Say) (s : St) (o : MOwn) (cod bv cv dv : Value) (W : World) : Prop where
  at_ : MAt W (w.heap.size + 1) c s (2 * l.length) o
  below : Below w.heap.size w W
  res : Blk W w.heap.size 30 #[.slice none 0 0, .slice none 0 0, .slice none 0 0, .slice none 0 0]
  out : Blk W (w.heap.size + 1 + 1 + 1 + 1 + 1 + 1 + 1) 30 #[cod, bv, cv, dv]
  codes : W.ownsRow (w.heap.size + 1) 35 1 cod l.length (codeCells (run c (Mo.start c) l).2)
  cert : W.ownsRow (w.heap.size + 1) 4 1 cv s.blocks.length (boolL (certs c s s.blocks.length))

theorem LastAt.later {w W W' : World} {c : Cfg} {l : List Say} {s : St} {o : MOwn} {cod bv cv dv : Value} (h : LastAt w c l s o cod bv cv dv W) (hb : Below W.heap.size W W') : LastAt w c l s o cod bv cv dv W' :=
  ⟨h.at_.below hb, h.below.trans (hb.mono h.below.size), h.res.below hb h.res.lt, h.out.below hb h.out.lt, row_turned h.codes fun g _ hg => hb.block g hg.lt, row_turned h.cert fun g _ hg => hb.block g hg.lt⟩

theorem last_set {w W : World} {c : Cfg} {l : List Say} {s : St} {o : MOwn} {cod b0 cv d0 b1 d1 : Value} (h : LastAt w c l s o cod b0 cv d0 W) (i : Nat) (v : Value) (hi : #[cod, b0, cv, d0].setIfInBounds i v = #[cod, b1, cv, d1]) :
    LastAt w c l s o cod b1 cv d1 (W.setCell ⟨w.heap.size + 1 + 1 + 1 + 1 + 1 + 1 + 1, i, none⟩ v) := by
  refine ⟨?_, h.below.setCell (by simp; omega) _, h.res.far (by simp; omega) _, ?_, ?_, ?_⟩
  · refine (h.at_.keep (w' := W.setCell _ _) fun k hj => Below.heap_setCell W _ _ k ?_)
    rintro rfl
    exact h.at_.not_has h.out (by decide) (by decide) (by decide) (by decide) hj
  · rw [← hi]; exact h.out.set_ i v
  · exact row_turned h.codes fun g cs hgb => Below.heap_setCell W _ _ g (by rintro rfl; exact hgb.ne_ h.out (by decide) rfl)
  · exact row_turned h.cert fun g cs hgb => Below.heap_setCell W _ _ g (by rintro rfl; exact hgb.ne_ h.out (by decide) rfl)

theorem LastAt.brow {w W : World} {c : Cfg} {l : List Say} {s : St} {o : MOwn} {cod bv cv dv : Value} (h : LastAt w c l s o cod bv cv dv W) : BRow W o.gb s.blocks :=
  ⟨fun i hi => h.at_.par hi, fun i hi => h.at_.rnd hi, h.at_.ob.lt⟩
theorem LastAt.crow {w W : World} {c : Cfg} {l : List Say} {s : St} {o : MOwn} {cod bv dv : Value} {gc capc : Nat} (h : LastAt w c l s o cod bv (.slice (some ⟨gc, 0, none⟩) s.blocks.length capc) dv W) :
    ∀ i : Nat, i < s.blocks.length → W.cell? ⟨gc, i, none⟩ = some (.bool ((certs c s s.blocks.length).getD i false)) := by
  intro i hi
  rw [World.ownsRow.cellAt h.cert i (by omega)]
  simp [boolL, certs, hi]

def decided (c : Cfg) (s : St) : List Bool := dec s.blocks (certs c s s.blocks.length) s.blocks.length

/-- what Play hands back -/
def Met (w : World) (c : Cfg) (l : List Say) (e : Ending) (w' : World) : Prop :=
  ∃ s cod gb cb gc cc gd, (run c (Mo.start c) l).1 = s ∧ WF c s ∧
    e = .returned (.tuple #[.agg #[cod, .slice (some ⟨gb, 0, none⟩) s.blocks.length cb, .slice (some ⟨gc, 0, none⟩) s.blocks.length cc, .slice (some ⟨gd, 0, none⟩) s.blocks.length s.blocks.length], .int .i64 0]) ∧
    w'.ownsRow (w.heap.size + 1) 35 1 cod l.length (codeCells (run c (Mo.start c) l).2) ∧ Own w' (w.heap.size + 1) 45 2 gb cb s.blocks.length (pairCells s.blocks) ∧
    Own w' (w.heap.size + 1) 4 1 gc cc s.blocks.length (boolL (certs c s s.blocks.length)) ∧ Blk w' gd 4 (boolCells (decided c s)) ∧ w.heap.size + 1 ≤ gd ∧ gd ≠ gc ∧ Below w.heap.size w w'

theorem Own.set_far {w : World} {B size n g cap : Nat} {e : TypeId} {xs : List Value} (h : Own w B e size g cap n xs) {p : Addr} (hp : g ≠ p.block) (v : Value) : Own (w.setCell p v) B e size g cap n xs :=
  h.same (Below.heap_setCell w p v g hp)
theorem row_far {w : World} {B size n b i : Nat} {e : TypeId} {u : Value} {xs : List Value} (h : w.ownsRow B e size u n xs) (hb : b < B) (v : Value) : (w.setCell ⟨b, i, none⟩ v).ownsRow B e size u n xs := by
  refine ⟨h.1, ?_⟩
  rcases h.2 with hn | ⟨g, cap, cur, hv, hB, hg, rest⟩
  · exact .inl hn
  · exact .inr ⟨g, cap, cur, hv, hB, (Below.heap_setCell w _ v g (by simp; omega)).trans hg, rest⟩

theorem play_fin {w W : World} {c : Cfg} {l : List Say} {s : St} {o : MOwn} {cod : Value} {gc capc gd : Nat} (hs : (run c (Mo.start c) l).1 = s) (hw : WF c s)
    (h : LastAt w c l s o cod (.slice (some ⟨o.gb, 0, none⟩) s.blocks.length o.cb) (.slice (some ⟨gc, 0, none⟩) s.blocks.length capc) (.slice (some ⟨gd, 0, none⟩) s.blocks.length s.blocks.length) W)
    (hD : Blk W gd 4 (boolCells (decided c s))) (hgd : w.heap.size + 1 ≤ gd) (hne : gd ≠ gc) (v0 v1 v2 v3 : Value) :
    Met w c l (.returned (.tuple #[.agg #[cod, .slice (some ⟨o.gb, 0, none⟩) s.blocks.length o.cb, .slice (some ⟨gc, 0, none⟩) s.blocks.length capc, .slice (some ⟨gd, 0, none⟩) s.blocks.length s.blocks.length], .int .i64 0]))
      ((((W.setCell ⟨w.heap.size, 0, none⟩ v0).setCell ⟨w.heap.size, 1, none⟩ v1).setCell ⟨w.heap.size, 2, none⟩ v2).setCell ⟨w.heap.size, 3, none⟩ v3) := by
  refine ⟨s, cod, o.gb, o.cb, gc, capc, gd, hs, hw, rfl, ?_, ?_, ?_, ?_, hgd, hne, ?_⟩
  · exact row_far (row_far (row_far (row_far h.codes (by omega) _) (by omega) _) (by omega) _) (by omega) _
  · exact row_far (row_far (row_far (row_far h.at_.ob (by omega) _) (by omega) _) (by omega) _) (by omega) _
  · exact row_far (row_far (row_far (row_far h.cert (by omega) _) (by omega) _) (by omega) _) (by omega) _
  · exact (((hD.far (by simp; omega) _).far (by simp; omega) _).far (by simp; omega) _).far (by simp; omega) _
  · exact (((h.below.setCell (by simp) _).setCell (by simp) _).setCell (by simp) _).setCell (by simp) _

/-- behind a step: its code is appended -/
theorem play_next {w w2 w3 : World} {c : Cfg} {l : List Say} {k : Nat} {s s' : St} {cod : Value} {o' : MOwn} {x : Say} {code : Int} {gg cap : Nat} (hx : l[k]? = some x) (hs : (run c (Mo.start c) (l.take k)).1 = s) (hw : WF c s)
    (he : Mo.step c s x = (s', code)) (hM : MAt w2 (w.heap.size + 1) c s' (2 * k + 2) o') (hob : o'.b = w.heap.size + 1 + 1 + 1 + 1 + 1 + 1) (hB : Below w.heap.size w w2)
    (hres : Blk w2 w.heap.size 30 #[.slice none 0 0, .slice none 0 0, .slice none 0 0, .slice none 0 0])
    (hout : Blk w2 (w.heap.size + 1 + 1 + 1 + 1 + 1 + 1 + 1) 30 #[cod, .slice none 0 0, .slice none 0 0, .slice none 0 0])
    (hrow : w2.ownsRow (w.heap.size + 1) 35 1 cod k (codeCells (run c (Mo.start c) (l.take k)).2)) {ob : Obj} (hg : (w2.alloc ob).grownBy w3 cod.ownBlock)
    (hown : w3.ownsRow (w.heap.size + 1) 35 1 (.slice (some ⟨gg, 0, none⟩) (k + 1) cap) (k + 1) (codeCells (run c (Mo.start c) (l.take k)).2 ++ [.int .i64 code])) :
    PlayAt w c l (k + 1) (w3.setCell ⟨w.heap.size + 1 + 1 + 1 + 1 + 1 + 1 + 1, 0, none⟩ (.slice (some ⟨gg, 0, none⟩) (k + 1) cap)) s' (.slice (some ⟨gg, 0, none⟩) (k + 1) cap) o' := by
  have hkl : k < l.length := (List.getElem?_eq_some_iff.1 hx).1
  have ht : l.take (k + 1) = l.take k ++ [x] := by rw [List.take_add_one, hx]; rfl
  have hrun : run c (Mo.start c) (l.take (k + 1)) = (s', (run c (Mo.start c) (l.take k)).2 ++ [code]) := by rw [ht, run_snoc, hs, he]
  have hM3 : MAt w3 (w.heap.size + 1) c s' (2 * k + 2) o' := hM.keep fun j hj => by
    have hlt := (hM.has_lt hj).1
    have hne : some j ≠ cod.ownBlock := fun e => by
      obtain ⟨cs, hb⟩ := row_blk hrow e.symm
      exact hM.not_has hb (by decide) (by decide) (by decide) (by decide) hj
    exact (hg.block j (by simp; omega) hne).trans (Below.heap_alloc w2 ob j hlt)
  have hout3 := (hout.alloc ob).grown hg (row_ne hrow hout (by decide))
  have hres3 := (hres.alloc ob).grown hg (row_ne hrow hres (by decide))
  refine ⟨by rw [hrun], ?_, ?_, hob, ?_, ?_, ?_, ?_⟩
  · have := wf_step hw x
    rwa [he] at this
  · refine (hM3.keep (w' := w3.setCell _ _) fun j hj => Below.heap_setCell w3 _ _ j ?_)
    rintro rfl
    exact hM3.not_has hout3 (by decide) (by decide) (by decide) (by decide) hj
  · refine Below.setCell ?_ (by simp; omega) _
    refine (hB.alloc hB.size ob).grown hg (hB.alloc hB.size ob).size fun j hj => ?_
    obtain ⟨cs, hb⟩ := row_blk hrow hj
    rcases hrow.2 with ⟨rfl, _⟩ | ⟨g', cap', cur, rfl, hb', _⟩
    · cases hj
    · cases hj
      exact Nat.le_trans (Nat.le_succ _) hb'
  · exact hres3.far (by simp; omega) _
  · exact hout3.set_ 0 _
  · rw [hrun]
    have e : codeCells ((run c (Mo.start c) (l.take k)).2 ++ [code]) = codeCells (run c (Mo.start c) (l.take k)).2 ++ [.int .i64 code] := by simp [codeCells]
    rw [e]
    exact row_turned hown fun g cs hgb => Below.heap_setCell w3 _ _ g (by rintro rfl; exact hgb.ne_ hout3 (by decide) rfl)

theorem play_start (w : World) (c : Cfg) (l : List Say) (h1 : 1 ≤ c.n) (h7 : c.n ≤ 7) (hn : c.need ≤ c.n) (hl : c.liars < 2 ^ c.n) :
    PlayAt w c l 0 ((((((((w.alloc (.cells #[.slice none 0 0, .slice none 0 0, .slice none 0 0, .slice none 0 0] 30)).alloc (.cells #[.int .i64 (-1), .int .i64 0] 45)).alloc (.cells #[.int .u32 0] 22)).alloc
      (.cells (pairCells (List.replicate c.n (0, 0))).toArray 103)).alloc (.map #[] 0)).alloc (.map #[] 0)).alloc (.cells #[.int .i64 c.n, .int .i64 c.need, .int .u32 c.liars, .slice (some ⟨w.heap.size + 1, 0, none⟩) 1 1, .slice (some ⟨w.heap.size + 1 + 1, 0, none⟩) 1 1,
        .slice (some ⟨w.heap.size + 1 + 1 + 1, 0, none⟩) c.n c.n, .map (some (w.heap.size + 1 + 1 + 1 + 1)), .map (some (w.heap.size + 1 + 1 + 1 + 1 + 1))] 70)).alloc (.cells #[.slice none 0 0, .slice none 0 0, .slice none 0 0, .slice none 0 0] 30))
      (Mo.start c) (.slice none 0 0) (startO w.heap.size c.n) := by
  generalize hW1 : w.alloc (.cells #[.slice none 0 0, .slice none 0 0, .slice none 0 0, .slice none 0 0] 30) = W1
  have k0 : W1.heap[w.heap.size]? = some (.cells #[.slice none 0 0, .slice none 0 0, .slice none 0 0, .slice none 0 0] 30 (0, 0)) := by rw [← hW1]; exact alloc_at _ _
  have z1 : W1.heap.size = w.heap.size + 1 := by rw [← hW1]; simp
  have b1 : Below w.heap.size w W1 := by rw [← hW1]; exact (Below.refl _ w).alloc (Nat.le_refl _) _
  generalize hW2 : W1.alloc (.cells #[.int .i64 (-1), .int .i64 0] 45) = W2
  have k1 : W2.heap[w.heap.size + 1]? = some (.cells #[.int .i64 (-1), .int .i64 0] 45 (0, 0)) := by rw [← hW2, ← z1]; exact alloc_at _ _
  have z2 : W2.heap.size = w.heap.size + 1 + 1 := by rw [← hW2]; simp [z1]
  have b2 : Below w.heap.size w W2 := by rw [← hW2]; exact b1.alloc (by omega) _
  have e1 : ∀ {k x}, W1.heap[k]? = some x → W2.heap[k]? = some x := fun h => by rw [← hW2]; exact alloc_old h _
  generalize hW3 : W2.alloc (.cells #[.int .u32 0] 22) = W3
  have k2 : W3.heap[w.heap.size + 1 + 1]? = some (.cells #[.int .u32 0] 22 (0, 0)) := by rw [← hW3, ← z2]; exact alloc_at _ _
  have z3 : W3.heap.size = w.heap.size + 1 + 1 + 1 := by rw [← hW3]; simp [z2]
  have b3 : Below w.heap.size w W3 := by rw [← hW3]; exact b2.alloc (by omega) _
  have e2 : ∀ {k x}, W2.heap[k]? = some x → W3.heap[k]? = some x := fun h => by rw [← hW3]; exact alloc_old h _
  generalize hW4 : W3.alloc (.cells (pairCells (List.replicate c.n (0, 0))).toArray 103) = W4
  have k3 : W4.heap[w.heap.size + 1 + 1 + 1]? = some (.cells (pairCells (List.replicate c.n (0, 0))).toArray 103 (0, 0)) := by rw [← hW4, ← z3]; exact alloc_at _ _
  have z4 : W4.heap.size = w.heap.size + 1 + 1 + 1 + 1 := by rw [← hW4]; simp [z3]
  have b4 : Below w.heap.size w W4 := by rw [← hW4]; exact b3.alloc (by omega) _
  have e3 : ∀ {k x}, W3.heap[k]? = some x → W4.heap[k]? = some x := fun h => by rw [← hW4]; exact alloc_old h _
  generalize hW5 : W4.alloc (.map #[] 0) = W5
  have k4 : W5.heap[w.heap.size + 1 + 1 + 1 + 1]? = some (.map #[] 0) := by rw [← hW5, ← z4]; exact alloc_at _ _
  have z5 : W5.heap.size = w.heap.size + 1 + 1 + 1 + 1 + 1 := by rw [← hW5]; simp [z4]
  have b5 : Below w.heap.size w W5 := by rw [← hW5]; exact b4.alloc (by omega) _
  have e4 : ∀ {k x}, W4.heap[k]? = some x → W5.heap[k]? = some x := fun h => by rw [← hW5]; exact alloc_old h _
  generalize hW6 : W5.alloc (.map #[] 0) = W6
  have k5 : W6.heap[w.heap.size + 1 + 1 + 1 + 1 + 1]? = some (.map #[] 0) := by rw [← hW6, ← z5]; exact alloc_at _ _
  have z6 : W6.heap.size = w.heap.size + 1 + 1 + 1 + 1 + 1 + 1 := by rw [← hW6]; simp [z5]
  have b6 : Below w.heap.size w W6 := by rw [← hW6]; exact b5.alloc (by omega) _
  have e5 : ∀ {k x}, W5.heap[k]? = some x → W6.heap[k]? = some x := fun h => by rw [← hW6]; exact alloc_old h _
  generalize hW7 : W6.alloc _ = W7
  have k6 : W7.heap[w.heap.size + 1 + 1 + 1 + 1 + 1 + 1]? = some (.cells ((startO w.heap.size c.n).cells c (Mo.start c)) 70 (0, 0)) := by
    rw [← hW7, ← z6, alloc_at]
    simp [startO, MOwn.cells, Mo.start, z6]
  have z7 : W7.heap.size = w.heap.size + 1 + 1 + 1 + 1 + 1 + 1 + 1 := by rw [← hW7]; simp [z6]
  have b7 : Below w.heap.size w W7 := by rw [← hW7]; exact b6.alloc (by omega) _
  have e6 : ∀ {k x}, W6.heap[k]? = some x → W7.heap[k]? = some x := fun h => by rw [← hW7]; exact alloc_old h _
  refine ⟨rfl, WF.start h1 h7 hn hl, ?_, rfl, b7.alloc (by omega) _, ?_, ?_, ?_⟩
  · exact start_at _ h1 h7 (alloc_old (e6 (e5 (e4 (e3 (e2 k1))))) _) (alloc_old (e6 (e5 (e4 (e3 k2)))) _) (alloc_old (e6 (e5 (e4 k3))) _) (alloc_old (e6 (e5 k4)) _) (alloc_old (e6 k5) _) (alloc_old k6 _)
  · exact alloc_old (e6 (e5 (e4 (e3 (e2 (e1 k0)))))) _
  · have := alloc_at W7 (.cells #[.slice none 0 0, .slice none 0 0, .slice none 0 0, .slice none 0 0] 30)
    rwa [z7] at this
  · exact World.ownsRow_nil _ _ _ _

section
variable {w : World} {a : Option Addr} {cap : Nat}
set_option maxHeartbeats 4000000 in
set_option maxRecDepth 100000 in
theorem play_ok (n f need liars : Nat) (l : List Say) (h1 : 1 ≤ n) (h2 : n ≤ 7) (h3 : l.length ≤ 120) (hf : f ≤ (n - 1) / 3) (hneed : need = n - f) (hl : liars / 2 ^ n = 0) (hs : SRow w a l) :
    Calls Tryd.prog 9 #[.int .i64 n, .int .i64 f, .int .u32 liars, .slice a l.length cap] w (Met w { n := n, need := need, liars := liars } l) := by
  have t1 : decide ((n : Int) < 1) = false := by simp; omega
  have t2 : decide ((7 : Int) < n) = false := by simp; omega
  have t3 : decide ((120 : Int) < l.length) = false := by simp; omega
  have t4 : decide ((f : Int) < 0) = false := by simp
  have t5 : decide (((n : Int) - 1) / 3 < f) = false := by simp; omega
  have t6 : ((liars : Int) / 2 ^ n != 0) = false := by
    rw [bne_eq_false_iff_eq]
    exact_mod_cast hl
  have t7 : (n : Int) - f = need := by omega
  have hmm := @run_makeMap Tryd.prog
  have hmk : ∀ W : World, (Instr.makeSlice 66 (.int .i64 (n : Int)) (.int .i64 (n : Int))).run Tryd.prog W = .ok (.slice (some ⟨W.heap.size, 0, none⟩) n n) (W.alloc (.cells (pairCells (List.replicate n (0, 0))).toArray 103)) := by
    intro W
    obtain ⟨i0, hi0, hz0, hz1, hz2⟩ := info_parts info_member
    have hm := run_make (P := Tryd.prog) W 66 103 i0 _ Tryd.underlying66 hi0 hz0 .i64 .i64 n n (by omega) (by omega) (by rw [hz2]; omega) (by omega)
    rw [hm, hz1, Int.toNat_natCast, pairs_zero _ h2]
  have HS := Lib.hid hs
  have HL : Hid (liars < 2 ^ n) := Lib.hid (by rcases Nat.lt_or_ge liars (2 ^ n) with h | h; exact h; have := Nat.div_pos h (Nat.two_pow_pos n); omega)
  clear hs hl hf hneed
  go_enter Tryd.func9, Tryd.ntmps9
  go_wp2_with fail
  go_loopw [58] (fun v wr => ∃ (k : Nat) (s : St) (cod : Value) (o : MOwn), v = .int .i64 k ∧ k ≤ l.length ∧ PlayAt w { n := n, need := need, liars := liars } l k wr s cod o) (fun v _ => l.length - (intOf v).toNat)
  case atStart =>
    exact ⟨0, _, _, _, rfl, by omega, play_start w { n := n, need := need, liars := liars } l h1 h2 (by simp only; omega) HL.out⟩
  case round =>
    obtain ⟨k, s, cod, o, rfl, hk, hP⟩ := hrel
    by_cases hkl : k = l.length
    · subst hkl
      have hC0 := Lib.hid hP.certs
      have hW := Lib.hid hP.wf
      have hSt := Lib.hid (show (run { n := n, need := need, liars := liars } (Mo.start { n := n, need := need, liars := liars }) l).1 = s by have := hP.st; rwa [List.take_length] at this)
      have hob := hP.ob
      have m3 := hP.at_.c3
      have hbl := hP.at_.blk.lt
      rw [hob] at m3 hbl
      have hob' := Lib.hid hob
      clear hP hob hk
      have n0 : (0 : Int) ≤ s.blocks.length := Int.natCast_nonneg _
      go_wp2_with fail
      go_loopw [76] (fun v wr => ∃ (j : Nat) (cv : Value), v = .int .i64 j ∧ j ≤ s.blocks.length ∧ CertAt w { n := n, need := need, liars := liars } l s o cod j wr cv) (fun v _ => s.blocks.length - (intOf v).toNat)
      case atStart => exact ⟨0, _, rfl, by omega, hC0.out⟩
      case round =>
        obtain ⟨j, cv, rfl, hj, hC⟩ := hrel
        by_cases hjl : j = s.blocks.length
        · subst hjl
          obtain ⟨cx, cn, ccap, rfl⟩ := row_slice hC.codes
          have hL0 : LastAt w { n := n, need := need, liars := liars } l s o (.slice cx cn ccap) (.slice none 0 0) cv (.slice none 0 0) wr := ⟨hC.at_, hC.below, hC.res, hC.out, hC.codes, hC.cert⟩
          obtain ⟨gc, capc, rfl, hgcB, hgcl⟩ := hC.cert.form (by have := hW.out.len1; omega)
          have m3 := hC.at_.c3
          rw [hob'.out] at m3
          have q1 := hC.out.cell 1
          have qf := hC.out.frozen 1
          have ql := hC.out.lt
          simp only [List.getElem?_toArray, List.getElem?_cons_zero, List.getElem?_cons_succ] at q1
          have hL1 := last_set (b1 := .slice (some ⟨o.gb, 0, none⟩) s.blocks.length o.cb) (d1 := .slice none 0 0) hL0 1 (.slice (some ⟨o.gb, 0, none⟩) s.blocks.length o.cb) rfl
          have hLL := Lib.hid hL1
          clear hC hL0 hL1 hj
          go_wp2_with fail
          generalize wr.setCell ⟨w.heap.size + 1 + 1 + 1 + 1 + 1 + 1 + 1, 1, none⟩ (.slice (some ⟨o.gb, 0, none⟩) s.blocks.length o.cb) = W1 at hLL ⊢
          clear m3 q1 qf ql
          have m3 := hLL.out.at_.c3
          rw [hob'.out] at m3
          have q2 := hLL.out.out.cell 2
          have q3 := hLL.out.out.cell 3
          have qf := hLL.out.out.frozen 3
          have ql := hLL.out.out.lt
          simp only [List.getElem?_toArray, List.getElem?_cons_zero, List.getElem?_cons_succ] at q2 q3
          have hdec := Lib.hid (fun n' => Decided_calls (w := W1.drewN n') (cb := o.cb) (cc := capc) (hLL.out.later (below_drewN (Below.refl _ W1) n')).brow (WF.chn hW.out) (cert := certs { n := n, need := need, liars := liars } s s.blocks.length) (by simp [certs])
            (hLL.out.later (below_drewN (Below.refl _ W1) n')).crow (Own.lt hLL.out.cert))
          go_region_law ((first
          | (go_simp
             go_at_call 19
             refine (hdec.out 1).mono ?_
             intro e w2 hd
             obtain ⟨gd, hgd, rfl, hD2, hb2⟩ := hd
             have hL2 := hLL.out.later (below_of_drewN hb2)
             have p3 := hL2.out.cell 3
             have pf := hL2.out.frozen 3
             have pl := hL2.out.lt
             simp only [List.getElem?_toArray, List.getElem?_cons_zero, List.getElem?_cons_succ] at p3
             have hLL2 := Lib.hid hL2
             have hDD2 := Lib.hid hD2
             clear hL2 hb2 hD2)))
          all_goals have hgd' : W1.heap.size ≤ gd := hgd
          all_goals have hL4 := last_set (b1 := .slice (some ⟨o.gb, 0, none⟩) s.blocks.length o.cb) (d1 := .slice (some ⟨gd, 0, none⟩) s.blocks.length s.blocks.length) hLL2.out 3 (.slice (some ⟨gd, 0, none⟩) s.blocks.length s.blocks.length) rfl
          all_goals have hD4 := hDD2.out.far (p := ⟨w.heap.size + 1 + 1 + 1 + 1 + 1 + 1 + 1, 3, none⟩) (by simp; omega) (.slice (some ⟨gd, 0, none⟩) s.blocks.length s.blocks.length)
          all_goals generalize w2.setCell ⟨w.heap.size + 1 + 1 + 1 + 1 + 1 + 1 + 1, 3, none⟩ (.slice (some ⟨gd, 0, none⟩) s.blocks.length s.blocks.length) = W4 at hL4 hD4 ⊢
          all_goals have hgcd : gc < W1.heap.size := Own.lt hLL.out.cert
          all_goals have c0 := hL4.out.cell 0
          all_goals have c1 := hL4.out.cell 1
          all_goals have c2 := hL4.out.cell 2
          all_goals have c3 := hL4.out.cell 3
          all_goals have r0 := hL4.res.cell 0
          all_goals have r1 := hL4.res.cell 1
          all_goals have r2 := hL4.res.cell 2
          all_goals have r3 := hL4.res.cell 3
          all_goals have f0 := hL4.res.frozen 0
          all_goals have f1 := hL4.res.frozen 1
          all_goals have f2 := hL4.res.frozen 2
          all_goals have f3 := hL4.res.frozen 3
          all_goals have rl := hL4.res.lt
          all_goals simp only [List.getElem?_toArray, List.getElem?_cons_zero, List.getElem?_cons_succ] at c0 c1 c2 c3 r0 r1 r2 r3
          all_goals have hL4' := Lib.hid hL4
          all_goals have hD4' := Lib.hid hD4
          all_goals clear hL4 hD4
          all_goals go_wp2_with fail
          all_goals refine bodyPost_ret (play_ret rfl ((((hL4'.out.res.set_ 0 (.slice cx cn ccap)).set_ 1 (.slice (some ⟨o.gb, 0, none⟩) s.blocks.length o.cb)).set_ 2 (.slice (some ⟨gc, 0, none⟩) s.blocks.length capc)).set_ 3 (.slice (some ⟨gd, 0, none⟩) s.blocks.length s.blocks.length)) rfl rfl rfl rfl) rfl ?_
          all_goals exact play_fin hSt.out hW.out hL4'.out hD4'.out (by have := hLL.out.below.size; omega) (by omega) _ _ _ _
        · have hjl' : j < s.blocks.length := by omega
          have hCC := Lib.hid hC
          have hJL := Lib.hid hjl
          have q2 := hC.out.cell 2
          have qf := hC.out.frozen 2
          have ql := hC.out.lt
          simp only [List.getElem?_toArray, List.getElem?_cons_zero, List.getElem?_cons_succ] at q2
          have hcert := Lib.hid (fun n' => certified_at (hCC.out.at_.drewN n') hW.out j hjl')
          rw [hob'.out] at hcert
          clear hC hjl
          obtain ⟨i0, hi0, hz0, hz1, hz2⟩ := info_parts info_bool
          have HI := Lib.hid (And.intro hi0 (And.intro hz0 (And.intro hz1 hz2)))
          have hsl := hW.out.len40
          clear hi0 hz0 hz1 hz2
          go_wp2_with fail
          go_region_law ((first
          | (go_simp
             go_at_call 18
             refine (hcert.out 1).mono ?_
             intro e w2 hd
             obtain ⟨rfl, hd⟩ := hd
             have hm : ∃ m, w2 = wr.drewN m := by
               obtain ⟨nq, rfl⟩ := hd
               exact ⟨1 + nq, drewN_twice wr 1 nq⟩
             have qq2 : w2.cell? ⟨w.heap.size + 1 + 1 + 1 + 1 + 1 + 1 + 1, 2, none⟩ = some cv := by
               obtain ⟨m, rfl⟩ := hm
               exact q2
             have qql : w.heap.size + 1 + 1 + 1 + 1 + 1 + 1 + 1 < w2.heap.size := by
               obtain ⟨m, rfl⟩ := hm
               exact ql
             have hm2 := Lib.hid hm
             clear hm hd)
          | (refine step_append_lies _ (by rfl) (.tmp 80) (.tmp 84) 28 (by rfl) (w.heap.size + 1) 4 i0 (.bool false) 1 1 Tryd.underlying28 HI.out.1 HI.out.2.1 HI.out.2.2.1 HI.out.2.2.2 rfl (by omega) cv j (boolL (Go.Proofs.YtkcekjpohpenkaaDoor.certs { n := n, need := need, liars := liars } s j)) (by rfl)
               (row_turned hCC.out.cert (fun g cs hg => by obtain ⟨m, rfl⟩ := hm2.out; exact Below.heap_alloc (wr.drewN m) _ g hg.lt)) ⟨w2.heap.size, 0, none⟩ 1 1 [.bool (Mo.certified { n := n, need := need, liars := liars } s j)] (by rfl) (by rfl)
               (World.news_of_block (cs := #[.bool (Mo.certified { n := n, need := need, liars := liars } s j)]) (t := 4) (fr := (0, 0)) (heap_alloc_new w2 _)) (by simp [Value.oneCell']) (by omega) (by unfold maxLen; omega) (by omega)
               (by simp; omega) (w2.heap.size + 1) (by simp) ?_
             intro gg cap3 w3 hown3 hgrow3 hat3 hlt3
             have hn3 := Lib.hid (show CertAt w { n := n, need := need, liars := liars } l s o cod (j + 1) _ _ by obtain ⟨m, rfl⟩ := hm2.out; exact cert_next hCC.out hgrow3 hown3)
             have hO3 : Blk w3 _ _ _ := ((show Blk w2 _ _ _ by obtain ⟨m, rfl⟩ := hm2.out; exact hCC.out.out).alloc (.cells #[.bool (Mo.certified { n := n, need := need, liars := liars } s j)] 4)).grown hgrow3 (row_ne hCC.out.cert hCC.out.out (by decide))
             have z3 := hO3.cell 2
             have zf3 := hO3.frozen 2
             simp only [List.getElem?_toArray, List.getElem?_cons_zero, List.getElem?_cons_succ] at z3
             clear hO3 hown3 hgrow3)))
          all_goals go_wp2_with fail
          all_goals exact ⟨⟨j + 1, _, by simp, by omega, hn3.out⟩, by simp [intOf]; omega⟩
    · have hkl' : k < l.length := by omega
      obtain ⟨g, rfl, hg, hx⟩ := HS.out.row k hkl'
      obtain ⟨x, hxl⟩ : ∃ x, l[k]? = some x := ⟨_, List.getElem?_eq_getElem hkl'⟩
      obtain ⟨x0, x1, x2, x3, x4⟩ := hx x hxl
      have y0 : wr.cell? (g.add (k * 5)) = some (.int .i64 x.kind) := (hP.below.cell (p := g.add (k * 5)) (by rw [addr_block]; exact hg)).trans x0
      have y1 : wr.cell? ⟨(g.add (k * 5)).block, (g.add (k * 5)).off + 1, none⟩ = some (.int .i64 x.who) := by show wr.cell? ((g.add (k * 5)).add 1) = _; rw [addr_twice]; exact (hP.below.cell (p := g.add (k * 5 + 1)) (by rw [addr_block]; exact hg)).trans x1
      have y2 : wr.cell? ⟨(g.add (k * 5)).block, (g.add (k * 5)).off + 2, none⟩ = some (.int .i64 x.block) := by show wr.cell? ((g.add (k * 5)).add 2) = _; rw [addr_twice]; exact (hP.below.cell (p := g.add (k * 5 + 2)) (by rw [addr_block]; exact hg)).trans x2
      have y3 : wr.cell? ⟨(g.add (k * 5)).block, (g.add (k * 5)).off + 3, none⟩ = some (.int .i64 x.round) := by show wr.cell? ((g.add (k * 5)).add 3) = _; rw [addr_twice]; exact (hP.below.cell (p := g.add (k * 5 + 3)) (by rw [addr_block]; exact hg)).trans x3
      have y4 : wr.cell? ⟨(g.add (k * 5)).block, (g.add (k * 5)).off + 4, none⟩ = some (.int .i64 x.high) := by show wr.cell? ((g.add (k * 5)).add 4) = _; rw [addr_twice]; exact (hP.below.cell (p := g.add (k * 5 + 4)) (by rw [addr_block]; exact hg)).trans x4
      have hgw : g.block < wr.heap.size := Nat.lt_of_lt_of_le hg hP.below.size
      have q0 := hP.out.cell 0
      have qf := hP.out.frozen 0
      have ql := hP.out.lt
      simp only [List.getElem?_toArray, List.getElem?_cons_zero] at q0
      have HP := Lib.hid hP
      have HH := Lib.hid (And.intro hkl (And.intro hx (And.intro x0 (And.intro x1 (And.intro x2 (And.intro x3 x4))))))
      clear hkl hP hx x0 x1 x2 x3 x4
      obtain ⟨kind, who, block, round, high⟩ := x
      simp only at y0 y1 y2 y3 y4
      go_wp2_with fail
      have hM1 := Lib.hid (HP.out.at_.alloc (.cells #[.int .i64 kind, .int .i64 who, .int .i64 block, .int .i64 round, .int .i64 high] 47))
      have hbx := Blk.new wr 47 #[.int .i64 kind, .int .i64 who, .int .i64 block, .int .i64 round, .int .i64 high]
      have hout := HP.out.out.alloc (.cells #[.int .i64 kind, .int .i64 who, .int .i64 block, .int .i64 round, .int .i64 high] 47)
      have hown1 := Lib.hid (row_turned (w' := wr.alloc (.cells #[.int .i64 kind, .int .i64 who, .int .i64 block, .int .i64 round, .int .i64 high] 47)) HP.out.codes (fun g cs hg => Below.heap_alloc wr _ g hg.lt))
      have hbel1 := Lib.hid (HP.out.below.alloc HP.out.below.size (.cells #[.int .i64 kind, .int .i64 who, .int .i64 block, .int .i64 round, .int .i64 high] 47))
      have hres1 := Lib.hid (HP.out.res.alloc (.cells #[.int .i64 kind, .int .i64 who, .int .i64 block, .int .i64 round, .int .i64 high] 47))
      have hlb : wr.heap.size < (wr.alloc (.cells #[.int .i64 kind, .int .i64 who, .int .i64 block, .int .i64 round, .int .i64 high] 47)).heap.size := by simp
      clear q0 qf y0 y1 y2 y3 y4 hgw
      generalize wr.alloc (.cells #[.int .i64 kind, .int .i64 who, .int .i64 block, .int .i64 round, .int .i64 high] 47) = W1 at hM1 hbx hout hown1 hbel1 hres1 hlb ⊢
      have z0 := hout.cell 0
      have zf := hout.frozen 0
      have b0 := hbx.cell 0
      have b1 := hbx.cell 1
      have b2 := hbx.cell 2
      have b3 := hbx.cell 3
      have b4 := hbx.cell 4
      simp only [List.getElem?_toArray, List.getElem?_cons_zero, List.getElem?_cons_succ] at z0 b0 b1 b2 b3 b4
      have hstep := Lib.hid (step_at (hM1.out.drewN 1) HP.out.wf ⟨kind, who, block, round, high⟩ (by omega))
      rw [HP.out.ob] at hstep
      have hOut := Lib.hid hout
      have hBx := Lib.hid hbx
      clear hout hbx
      obtain ⟨i0, hi0, hz0, hz1, hz2⟩ := info_parts info_errno
      have HI := Lib.hid (And.intro hi0 (And.intro hz0 (And.intro hz1 hz2)))
      clear hi0 hz0 hz1 hz2
      go_region_law ((first
          | (go_simp
             go_at_call 17
             refine (hstep.out).mono ?_
             intro e w2 hd
             obtain ⟨o', rfl, hM2, hT2, hob⟩ := hd
             have hn1 : ∀ k, k < W1.heap.size → ¬ o.has k → w2.heap[k]? = W1.heap[k]? := hT2.block
             have hO2 : Blk w2 _ _ _ := (hn1 _ hOut.out.lt (hM1.out.not_has hOut.out (by decide) (by decide) (by decide) (by decide))).trans hOut.out
             have hB2 : Blk w2 _ _ _ := (hn1 _ hBx.out.lt (hM1.out.not_has hBx.out (by decide) (by decide) (by decide) (by decide))).trans hBx.out
             have hR2 : Blk w2 _ _ _ := (hn1 _ hres1.out.lt (hM1.out.not_has hres1.out (by decide) (by decide) (by decide) (by decide))).trans hres1.out
             have hW2 := row_turned (w' := w2) hown1.out (fun g cs hg => hn1 _ hg.lt (hM1.out.not_has hg (by decide) (by decide) (by decide) (by decide)))
             have z0' := hO2.cell 0
             have b0' := hB2.cell 0
             have b1' := hB2.cell 1
             have b2' := hB2.cell 2
             have b3' := hB2.cell 3
             have b4' := hB2.cell 4
             simp only [List.getElem?_toArray, List.getElem?_cons_zero, List.getElem?_cons_succ] at z0' b0' b1' b2' b3' b4'
             have hM2' := Lib.hid hM2
             have hT2' := Lib.hid hT2
             have hO2' := Lib.hid hO2
             have hR2' := Lib.hid hR2
             have hW2' := Lib.hid hW2
             have hB2' := Lib.hid hB2
             have lO2 := hO2.lt
             have lB2 := hB2.lt
             clear hM2 hT2 hn1 hO2 hB2 hR2 hW2)
          | (refine step_append_lies _ (by rfl) (.tmp 63) (.tmp 67) 26 (by rfl) (w.heap.size + 1) 35 i0 (.int .i64 0) 1 8 Tryd.underlying26 HI.out.1 HI.out.2.1 HI.out.2.2.1 HI.out.2.2.2 rfl (by omega) cod k (codeCells (run { n := n, need := need, liars := liars } (Mo.start { n := n, need := need, liars := liars }) (l.take k)).2) (by rfl)
               (row_turned hW2'.out (fun g cs hg => Below.heap_alloc _ _ g hg.lt)) ⟨w2.heap.size, 0, none⟩ 1 1 [.int .i64 (Mo.step { n := n, need := need, liars := liars } s ⟨kind, who, block, round, high⟩).2] (by rfl) (by rfl)
               (World.news_of_block (cs := #[.int .i64 (Mo.step { n := n, need := need, liars := liars } s ⟨kind, who, block, round, high⟩).2]) (t := 35) (fr := (0, 0)) (heap_alloc_new w2 _)) (by simp [Value.oneCell']) (by omega) (by unfold maxLen; omega) (by omega)
               (by simp; omega) (w2.heap.size + 1) (by simp) ?_
             intro gg cap3 w3 hown3 hgrow3 hat3 hlt3
             have hO3 : Blk w3 _ _ _ := (hO2'.out.alloc (.cells #[.int .i64 (Mo.step { n := n, need := need, liars := liars } s ⟨kind, who, block, round, high⟩).2] 35)).grown hgrow3 (row_ne hW2'.out hO2'.out (by decide))
             have hB3 : Blk w3 _ _ _ := (hB2'.out.alloc (.cells #[.int .i64 (Mo.step { n := n, need := need, liars := liars } s ⟨kind, who, block, round, high⟩).2] 35)).grown hgrow3 (row_ne hW2'.out hB2'.out (by decide))
             have z3 := hO3.cell 0
             have zf3 := hO3.frozen 0
             have c0' := hB3.cell 0
             have c1' := hB3.cell 1
             have c2' := hB3.cell 2
             have c3' := hB3.cell 3
             have c4' := hB3.cell 4
             simp only [List.getElem?_toArray, List.getElem?_cons_zero, List.getElem?_cons_succ] at z3 c0' c1' c2' c3' c4'
             have hn3 := Lib.hid (play_next hxl HP.out.st HP.out.wf rfl hM2'.out (hob.trans HP.out.ob) (turned_below (below_drewN hbel1.out 1) (hM1.out.drewN 1) (by omega) hT2'.out) hR2'.out hO2'.out hW2'.out hgrow3 hown3)
             clear hO3 hB3 hown3 hgrow3)))
      all_goals go_wp2_with fail
      all_goals exact ⟨⟨k + 1, _, _, _, by simp, by omega, hn3.out⟩, by simp [intOf]; omega⟩
end
end Go.Proofs.YtkcekjpohpenkaaDoor
