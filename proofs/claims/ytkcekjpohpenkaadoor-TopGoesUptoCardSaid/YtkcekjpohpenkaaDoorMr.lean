import Derived.Test.YtkcekjpohpenkaaDoorMq
import Derived.Sort.QuietIn
import Derived.Deep.OwnRows
set_option linter.unusedVariables false
set_option linter.unusedSimpArgs false
namespace Go.Proofs.YtkcekjpohpenkaaDoor
open Go.RowKit Mo

attribute [local go_sem] Oper.semAt_some

def setAll (l : List Bool) (ps : List Nat) : List Bool := ps.foldl (fun l p => l.set p true) l
theorem setAll_snoc (l : List Bool) (ps : List Nat) (x : Nat) : setAll l (ps ++ [x]) = (setAll l ps).set x true := by simp [setAll]
theorem setAll_length (l : List Bool) (ps : List Nat) : (setAll l ps).length = l.length := by
  induction ps generalizing l with
  | nil => rfl
  | cons x r ih => simpa [setAll] using ih (l.set x true)
/-- is a block the next round's child of a certified one, and certified? -/
def good (bl : List (Int × Int)) (cert : List Bool) (c : Nat) : Bool :=
  c != 0 && cert.getD c false && cert.getD (bl.getD c (0, 0)).1.toNat false && (bl.getD c (0, 0)).2 == (bl.getD (bl.getD c (0, 0)).1.toNat (0, 0)).2 + 1
/-- what the loop's first k rounds have set -/
def dec (bl : List (Int × Int)) (cert : List Bool) : Nat → List Bool
  | 0 => List.replicate bl.length false
  | k + 1 => if good bl cert k = true then setAll (dec bl cert k) (upsFull bl (bl.getD k (0, 0)).1) else dec bl cert k
theorem dec_bad {bl : List (Int × Int)} {cert : List Bool} {k : Nat} (h : good bl cert k = false) : dec bl cert (k + 1) = dec bl cert k := by
  rw [dec, if_neg (by simp [h])]
theorem dec_good {bl : List (Int × Int)} {cert : List Bool} {k : Nat} (h : good bl cert k = true) : dec bl cert (k + 1) = setAll (dec bl cert k) (upsFull bl (bl.getD k (0, 0)).1) := by
  rw [dec, if_pos h]
theorem dec_length (bl : List (Int × Int)) (cert : List Bool) (k : Nat) : (dec bl cert k).length = bl.length := by
  induction k with
  | zero => simp [dec]
  | succ k ih =>
    unfold dec
    split
    · rw [setAll_length, ih]
    · exact ih
def boolCells (l : List Bool) : Array Value := (l.map Value.bool).toArray

/-- the frame of chain.decided between two rounds -/
def decAct (gb cb gc cc len B k : Nat) (ds : List Nat) (u : Nat → Value) : Act :=
  { tmps := #[.slice (some ⟨gb, 0, none⟩) len cb, .slice (some ⟨gc, 0, none⟩) len cc, u 2, u 3, u 4, .pointer (some ⟨B + 1, 0, none⟩), u 6, u 7, u 8, u 9, u 10, u 11, .slice (some ⟨gb, 0, none⟩) len cb, .int .i64 len, .int .i64 k,
      u 15, u 16, u 17, u 18, u 19, u 20, u 21, u 22, u 23, u 24, u 25, u 26, u 27, u 28, u 29, u 30, u 31, u 32, u 33, u 34, u 35, u 36, u 37, u 38, u 39, u 40, u 41, u 42, u 43, u 44, u 45, u 46, u 47, u 48, u 49, u 50, u 51, u 52, u 53, u 54, u 55, u 56, u 57], defers := marks ds }

/-- what the blocks read hold -/
structure DecRow (w : World) (gb gc : Nat) (bl : List (Int × Int)) (cert : List Bool) : Prop where
  par : ∀ i : Nat, i < bl.length → w.cell? ⟨gb, i * 2, none⟩ = some (.int .i64 (bl.getD i (0, 0)).1)
  rnd : ∀ i : Nat, i < bl.length → w.cell? ⟨gb, i * 2 + 1, none⟩ = some (.int .i64 (bl.getD i (0, 0)).2)
  cert : ∀ i : Nat, i < bl.length → w.cell? ⟨gc, i, none⟩ = some (.bool (cert.getD i false))
  gb : gb < w.heap.size
  gc : gc < w.heap.size
theorem DecRow.below {w w' : World} {n gb gc : Nat} {bl : List (Int × Int)} {cert : List Bool} (h : DecRow w gb gc bl cert) (hn : gb < n) (hm : gc < n) (hb : Below n w w') : DecRow w' gb gc bl cert :=
  ⟨fun i hi => (hb.cell (p := ⟨gb, i * 2, none⟩) hn).trans (h.par i hi), fun i hi => (hb.cell (p := ⟨gb, i * 2 + 1, none⟩) hn).trans (h.rnd i hi), fun i hi => (hb.cell (p := ⟨gc, i, none⟩) hm).trans (h.cert i hi),
    Nat.lt_of_lt_of_le h.gb hb.size, Nat.lt_of_lt_of_le h.gc hb.size⟩

structure DecAt (w : World) (len : Nat) (l : List Bool) (ds : List Nat) (W : World) : Prop where
  below : Below w.heap.size w W
  row : Blk W w.heap.size 4 (boolCells l)
  box : Blk W (w.heap.size + 1) 28 #[.slice (some ⟨w.heap.size, 0, none⟩) len len]
  marks : MarksAt W ds
  at_ : ∀ D ∈ ds, w.heap.size + 1 < D ∧ D < W.heap.size

/-- what holds between two rounds -/
def DecInv (w : World) (gb cb gc cc : Nat) (bl : List (Int × Int)) (cert : List Bool) (m : Nat) (a : Act) (W : World) : Prop :=
  ∃ k ds u, m + k = bl.length ∧ a = decAct gb cb gc cc bl.length w.heap.size k ds u ∧ DecAt w bl.length (dec bl cert k) ds W

theorem DecAt.later {w W W' : World} {len : Nat} {l : List Bool} {ds : List Nat} (h : DecAt w len l ds W) (hb : Below W.heap.size W W') : DecAt w len l ds W' :=
  ⟨h.below.trans (hb.mono h.below.size), h.row.below hb h.row.lt, h.box.below hb h.box.lt,
    ⟨h.marks.1, fun D hD => (hb.block D (h.at_ D hD).2).trans (h.marks.2 D hD)⟩, fun D hD => ⟨(h.at_ D hD).1, Nat.lt_of_lt_of_le (h.at_ D hD).2 hb.size⟩⟩
theorem DecAt.same {w W W' : World} {len : Nat} {l : List Bool} {ds : List Nat} (h : DecAt w len l ds W) (j : Nat) (hj : w.heap.size + 1 < j) (hjd : j ∉ ds) (hb : ∀ k, k ≠ j → W'.heap[k]? = W.heap[k]?) (hs : W.heap.size = W'.heap.size)
    (h1 : W'.os = W.os) (h2 : W'.tape = W.tape) (h3 : W'.output = W.output) : DecAt w len l ds W' :=
  ⟨⟨h1.trans h.below.os, h2.trans h.below.tape, h3.trans h.below.output, by rw [← hs]; exact h.below.size, fun k hk => (hb k (by omega)).trans (h.below.block k hk)⟩,
    (hb _ (by omega)).trans h.row, (hb _ (by omega)).trans h.box, ⟨h.marks.1, fun D hD => (hb D (by rintro rfl; exact hjd hD)).trans (h.marks.2 D hD)⟩, fun D hD => by rw [← hs]; exact h.at_ D hD⟩
theorem DecAt.put {w W : World} {len : Nat} {l : List Bool} {ds : List Nat} (h : DecAt w len l ds W) (j i : Nat) (v : Value) (hj : w.heap.size + 1 < j) (hjd : j ∉ ds) : DecAt w len l ds (W.setCell ⟨j, i, none⟩ v) :=
  ⟨h.below.setCell (p := ⟨j, i, none⟩) (by simp; omega) _, h.row.far (by simp; omega) _, h.box.far (by simp; omega) _, ⟨h.marks.1, fun D hD => (Below.heap_setCell W _ _ D (by rintro rfl; exact hjd hD)).trans (h.marks.2 D hD)⟩, fun D hD => by
    have := h.at_ D hD
    simpa using this⟩
theorem enters_own {P : Program} {f : FuncId} {fn : Func} {c : Code} (hf : P.funcs[f]? = some fn) (hname : (fn.name == "runtime.NumGoroutine") = false) (hb : fn.body = some c) : ∀ args w, (callFunc f args).run P w = .ok (.enter f args) w := by
  intro args w
  have h1 : fn.name ≠ "runtime.NumGoroutine" := by simpa using hname
  simp [callFunc, hf, h1, hb, mark]
theorem boolCells_set (l : List Bool) (i : Nat) : (boolCells l).setIfInBounds i (.bool true) = boolCells (l.set i true) := by
  simp [boolCells]
theorem DecAt.set {w W : World} {len : Nat} {l : List Bool} {ds : List Nat} (h : DecAt w len l ds W) (i : Nat) : DecAt w len (l.set i true) ds (W.setCell ⟨w.heap.size, i, none⟩ (.bool true)) := by
  refine ⟨h.below.setCell (p := ⟨w.heap.size, i, none⟩) (Nat.le_refl _) _, ?_, h.box.far (by simp) _, ⟨h.marks.1, fun D hD => (Below.heap_setCell W _ _ D (by have := (h.at_ D hD).1; simp; omega)).trans (h.marks.2 D hD)⟩, fun D hD => ?_⟩
  · have := h.row.set_ i (.bool true)
    rwa [boolCells_set] at this
  · have := h.at_ D hD
    simpa using this
theorem DecAt.mark {w W : World} {len : Nat} {l : List Bool} {ds : List Nat} (h : DecAt w len l ds W) {D : Nat} (h1 : w.heap.size + 1 < D) (h2 : D < W.heap.size) (h3 : D ∉ ds) (h4 : W.heap[D]? = some (.deferred (some []))) : DecAt w len l (D :: ds) W :=
  ⟨h.below, h.row, h.box, ⟨List.nodup_cons.2 ⟨h3, h.marks.1⟩, fun E hE => (List.mem_cons.1 hE).elim (fun e => e ▸ h4) (h.marks.2 E)⟩, fun E hE => (List.mem_cons.1 hE).elim (fun e => e ▸ ⟨h1, h2⟩) (h.at_ E)⟩
theorem mem_ups {bl : List (Int × Int)} (hch : Chain bl) {x : Nat} : ∀ (f : Nat) (b : Int), b < bl.length → x ∈ ups bl f b → x < bl.length
  | 0, _, _, h => by simp [ups] at h
  | f + 1, b, hb, h => by
    rw [ups] at h
    split at h
    · simp at h
    · rcases List.mem_cons.1 h with rfl | h
      · omega
      · refine mem_ups hch f _ ?_ h
        have := hch b.toNat (by omega)
        omega
theorem decInv_next {w W : World} {gb cb gc cc : Nat} {bl : List (Int × Int)} {cert : List Bool} {m k : Nat} {ds : List Nat} {x2 x3 x4 x6 x7 x8 x9 x10 x11 x15 x16 x17 x18 x19 x20 x21 x22 x23 x24 x25 x26 x27 x28 x29 x30 x31 x32 x33 x34 x35 x36 x37 x38 x39 x40 x41 x42 x43 x44 x45 x46 x47 x48 x49 x50 x51 x52 x53 x54 x55 x56 x57 : Value} (hm : m + k = bl.length) (hD : DecAt w bl.length (dec bl cert k) ds W) :
    DecInv w gb cb gc cc bl cert m { tmps := #[.slice (some ⟨gb, 0, none⟩) bl.length cb, .slice (some ⟨gc, 0, none⟩) bl.length cc, x2, x3, x4, .pointer (some ⟨w.heap.size + 1, 0, none⟩), x6, x7, x8, x9, x10, x11, .slice (some ⟨gb, 0, none⟩) bl.length cb, .int .i64 bl.length, .int .i64 k, x15, x16, x17, x18, x19, x20, x21, x22, x23, x24, x25, x26, x27, x28, x29, x30, x31, x32, x33, x34, x35, x36, x37, x38, x39, x40, x41, x42, x43, x44, x45, x46, x47, x48, x49, x50, x51, x52, x53, x54, x55, x56, x57], defers := marks ds } W :=
  ⟨k, ds, fun i => match i with
    | 2 => x2
    | 3 => x3
    | 4 => x4
    | 6 => x6
    | 7 => x7
    | 8 => x8
    | 9 => x9
    | 10 => x10
    | 11 => x11
    | 15 => x15
    | 16 => x16
    | 17 => x17
    | 18 => x18
    | 19 => x19
    | 20 => x20
    | 21 => x21
    | 22 => x22
    | 23 => x23
    | 24 => x24
    | 25 => x25
    | 26 => x26
    | 27 => x27
    | 28 => x28
    | 29 => x29
    | 30 => x30
    | 31 => x31
    | 32 => x32
    | 33 => x33
    | 34 => x34
    | 35 => x35
    | 36 => x36
    | 37 => x37
    | 38 => x38
    | 39 => x39
    | 40 => x40
    | 41 => x41
    | 42 => x42
    | 43 => x43
    | 44 => x44
    | 45 => x45
    | 46 => x46
    | 47 => x47
    | 48 => x48
    | 49 => x49
    | 50 => x50
    | 51 => x51
    | 52 => x52
    | 53 => x53
    | 54 => x54
    | 55 => x55
    | 56 => x56
    | 57 => x57
    | _ => undef, hm, rfl, hD⟩

section
variable {w : World} {gb cb gc cc : Nat} {bl : List (Int × Int)} {cert : List Bool}
set_option maxRecDepth 100000 in
set_option maxHeartbeats 1000000 in
theorem decided_calls (hr : DecRow w gb gc bl cert) (h1 : 1 ≤ bl.length) (h40 : bl.length ≤ 40) (hch : Chain bl) (hpar : ∀ b, 0 < b → b < bl.length → 0 ≤ (bl.getD b (0, 0)).1) (hrnd : ∀ b, b < bl.length → 0 ≤ (bl.getD b (0, 0)).2 ∧ (bl.getD b (0, 0)).2 ≤ 1000) :
    Calls Tryd.prog 36 #[.slice (some ⟨gb, 0, none⟩) bl.length cb, .slice (some ⟨gc, 0, none⟩) bl.length cc] w fun e w' =>
      e = .returned (.slice (some ⟨w.heap.size, 0, none⟩) bl.length bl.length) ∧ Blk w' w.heap.size 4 (boolCells (dec bl cert bl.length)) ∧ Below w.heap.size w w' := by
  refine (callsIn_wide (n := 3)).1 ?_
  refine callsIn_of_wp_marks Tryd.func36 rfl trivial ?_ rfl
  simp only [Tryd.ntmps36, List.size_toArray, List.length_cons, List.length_nil, Nat.reduceAdd, Nat.reduceSub, Array.replicate_succ, Array.replicate_zero, List.push_toArray, List.append_toArray, List.nil_append, List.cons_append]
  have hmk : ∀ W : World, (Instr.makeSlice 28 (.int .i64 (bl.length : Int)) (.int .i64 (bl.length : Int))).run Tryd.prog W = .ok (.slice (some ⟨W.heap.size, 0, none⟩) bl.length bl.length) (W.alloc (.cells (boolCells (dec bl cert 0)) 4)) := by
    intro W
    have hm := run_make_row' (P := Tryd.prog) 28 4 (.bool false) 1 Tryd.underlying28 (by kernel_rfl) rfl .i64 .i64 bl.length (by omega) (by omega) W
    rw [hm]
    have e : madeCells #[Value.bool false] bl.length = boolCells (dec bl cert 0) := by
      apply Array.toList_inj.1
      rw [toList_madeCells_one]
      simp [boolCells, dec]
    rw [e]
  gi_wp2
  obtain ⟨W0, hW0⟩ : ∃ W0, (w.alloc (Obj.cells (boolCells (dec bl cert 0)) 4)).alloc (Obj.cells #[Value.slice (some { block := w.heap.size, off := 0 }) bl.length bl.length] 28) = W0 := ⟨_, rfl⟩
  have hD0 : DecAt w bl.length (dec bl cert 0) [] W0 := by
    subst hW0
    refine ⟨((Below.refl _ w).alloc (Nat.le_refl _) _).alloc (by simp) _, (Blk.new w _ _).alloc _, ?_, ⟨List.nodup_nil, by simp⟩, by simp⟩
    have := Blk.new (w.alloc (Obj.cells (boolCells (dec bl cert 0)) 4)) 28 #[Value.slice (some { block := w.heap.size, off := 0 }) bl.length bl.length]
    rwa [World.size_alloc] at this
  rw [hW0]
  clear hW0 hmk
  refine wpIn_loop_ghost (DecInv w gb cb gc cc bl cert) bl.length ⟨0, [], fun i => if i = 4 then .slice none 0 0 else if i = 9 then .slice (some { block := gb, off := 0 }) bl.length cb else if i = 10 then .int .i64 bl.length else if i = 11 then .slice (some { block := w.heap.size, off := 0 }) bl.length bl.length else undef, rfl, rfl, hD0⟩ ?_
  rintro m a W ⟨k, ds, u, hmk, rfl, hD⟩
  unfold decAct
  dsimp only
  have hbox := hD.box.cell 0
  have hboxl := hD.box.lt
  simp only [List.getElem?_toArray, List.getElem?_cons_zero] at hbox
  by_cases hk : k = bl.length
  · subst hk
    have hmarks := hD.marks
    gi_wp2
    refine leaves_marks ds W hmarks fun W' e1 e2 e3 e4 e5 => ?_
    refine ⟨_, results_tmp rfl _ _ _, rfl, ?_, ?_⟩
    · exact (e5 _ fun h => by have := hD.at_ _ h; omega).trans hD.row
    · exact ⟨e1.trans hD.below.os, e2.trans hD.below.tape, e3.trans hD.below.output, by rw [e4]; exact hD.below.size, fun k hk => (e5 _ fun h => by have := hD.at_ _ h; omega).trans (hD.below.block k hk)⟩
  · have hkl : k < bl.length := by omega
    have hgb := hr.gb
    have hgc := hr.gc
    have hpk := (hr.below hr.gb hr.gc hD.below).par k hkl
    have hrk := (hr.below hr.gb hr.gc hD.below).rnd k hkl
    have hck := (hr.below hr.gb hr.gc hD.below).cert k hkl
    have hrk0 := hrnd k hkl
    obtain ⟨z, hz⟩ : ∃ z, (bl.getD k (0, 0)).1 = z := ⟨_, rfl⟩
    obtain ⟨r, hrr⟩ : ∃ r, (bl.getD k (0, 0)).2 = r := ⟨_, rfl⟩
    obtain ⟨ck, hckk⟩ : ∃ ck, cert.getD k false = ck := ⟨_, rfl⟩
    rw [hz] at hpk
    rw [hrr] at hrk hrk0
    rw [hckk] at hck
    by_cases h0 : k = 0
    · subst h0
      simp only [Nat.zero_mul, Nat.zero_add, Nat.mul_zero] at hpk hrk hck
      have hL0 := hD.below.size
      gi_wp2
      gi_quiet (fail)
      gi_wp2
      refine ⟨m - 1, by omega, decInv_next (k := 1) (by omega) ?_⟩
      rw [dec_bad (k := 0) (by simp [good])]
      exact hD.later (below_drewN ((Below.refl _ W).alloc (Nat.le_refl _) _) nq)
    · obtain ⟨p, rfl⟩ : ∃ p : Nat, z = p := Int.eq_ofNat_of_zero_le (by rw [← hz]; exact hpar k (by omega) hkl)
      have hpk' : p < k := by have := (hch k hkl).2; omega
      have hpl : p < bl.length := by omega
      have hrp := (hr.below hr.gb hr.gc hD.below).rnd p hpl
      have hcp := (hr.below hr.gb hr.gc hD.below).cert p hpl
      have hrp0 := hrnd p hpl
      obtain ⟨rp, hrpp⟩ : ∃ r, (bl.getD p (0, 0)).2 = r := ⟨_, rfl⟩
      obtain ⟨cp, hcpp⟩ : ∃ ck, cert.getD p false = ck := ⟨_, rfl⟩
      rw [hrpp] at hrp hrp0
      rw [hcpp] at hcp
      have hgood : good bl cert k = (ck && cp && (r == rp + 1)) := by
        simp only [good, hz, hrr, hckk, Int.toNat_natCast, hrpp, hcpp, bne_iff_ne.2 h0, Bool.true_and]
      have hk0 : ((k : Int) == 0) = false := by simpa using h0
      have hk0' : ¬ ((k : Int) = 0) := by omega
      have hL0 := hD.below.size
      have hgcW : gc < W.heap.size := by omega
      have hgbW : gb < W.heap.size := by omega
      have hA := Lib.hid hD
      have hkne := Lib.hid hk
      have hS2 := Lib.hid hz
      have hS := Lib.hid (And.intro hr hch)
      clear hD hz hrr hckk hrpp hcpp h0 hr hrnd hpar hch hk
      cases ck with
      | false =>
        gi_wp2
        gi_quiet (fail)
        gi_wp2
        refine ⟨m - 1, by omega, decInv_next (k := k + 1) (by omega) ?_⟩
        rw [dec_bad (by simp [hgood])]
        exact hA.out.later (below_drewN ((Below.refl _ W).alloc (Nat.le_refl _) _) nq)
      | true =>
        cases cp with
        | false =>
          gi_wp2
          gi_quiet (fail)
          gi_wp2
          refine ⟨m - 1, by omega, decInv_next (k := k + 1) (by omega) ?_⟩
          rw [dec_bad (by simp [hgood])]
          exact hA.out.later (below_drewN ((Below.refl _ W).alloc (Nat.le_refl _) _) nq)
        | true =>
          by_cases hrr : r = rp + 1
          · subst hrr
            have hne : (rp + 1 != rp + 1) = false := by simp
            have hne' : (rp + 1 == rp + 1) = true := by simp
            gi_wp2
            gi_quiet (fail)
            have hpW : ((W.alloc (Obj.cells #[Value.int IntKind.i64 ↑p, Value.int IntKind.i64 (rp + 1)] 45)).drewN nq).cell? ⟨W.heap.size, 0, none⟩ = some (.int .i64 p) := (Blk.new W 45 _).cell 0
            obtain ⟨W1, hW1⟩ : ∃ W1, (W.alloc (Obj.cells #[Value.int IntKind.i64 ↑p, Value.int IntKind.i64 (rp + 1)] 45)).drewN nq = W1 := ⟨_, rfl⟩
            rw [hW1] at hpW ⊢
            gi_wp2_with (refine ⟨trivial, ?_⟩; gi_at_call 24; refine (callsIn_wide.2 (up_calls _ _ _ _ _)).mono ?_; rintro e w' ⟨rfl, rfl⟩)
            have hlt1 : W.heap.size < W1.heap.size := by rw [← hW1]; simp
            have hA1 : DecAt w bl.length (dec bl cert k) ds W1 := by
              rw [← hW1]
              exact hA.out.later (below_drewN ((Below.refl _ W).alloc (Nat.le_refl _) _) nq)
            have hB2 : Below W1.heap.size W1 ((W1.alloc (Obj.cells #[Value.slice (some { block := gb, off := 0 }) bl.length cb] 27)).alloc (Obj.cells #[Value.int IntKind.i64 (p : Int)] 3)) :=
              ((Below.refl _ W1).alloc (Nat.le_refl _) _).alloc (by simp) _
            have hp2 := Blk.new (W1.alloc (Obj.cells #[Value.slice (some { block := gb, off := 0 }) bl.length cb] 27)) 3 #[Value.int IntKind.i64 (p : Int)]
            have hq2 := (Blk.new W1 27 #[Value.slice (some { block := gb, off := 0 }) bl.length cb]).alloc (Obj.cells #[Value.int IntKind.i64 (p : Int)] 3)
            rw [World.size_alloc] at hp2
            have hsz : ((W1.alloc (Obj.cells #[Value.slice (some { block := gb, off := 0 }) bl.length cb] 27)).alloc (Obj.cells #[Value.int IntKind.i64 (p : Int)] 3)).heap.size = W1.heap.size + 2 := by simp
            generalize ((W1.alloc (Obj.cells #[Value.slice (some { block := gb, off := 0 }) bl.length cb] 27)).alloc (Obj.cells #[Value.int IntKind.i64 (p : Int)] 3)) = W2 at hB2 hp2 hq2 hsz ⊢
            have hrow2 := ((hS.out.1.below hgb hgc hA1.below).below (by omega) (by omega) hB2)
            have hI0 := hA1.later hB2
            refine wpIn_range_cell (α := Nat) (encs := fun x : Nat => #[.int .i64 x]) (Kept := fun k => k = W1.heap.size + 1 ∨ k = W1.heap.size ∨ k = gb) (p := W1.heap.size + 1) (xs := upsFull bl p) rfl (by omega) rfl trivial (enters_own Tryd.func38 (by kernel_rfl) rfl)
              (up_gives Fence.wide 2 trivial rfl (by omega) W2 (W1.heap.size + 1) W1.heap.size gb bl.length cb bl p rfl h40 (by omega) (by omega) hS.out.2 (by omega) (by omega) _ (.inl rfl) (.inr (.inl rfl)) (.inr (.inr rfl)) hp2 (hq2.cell 0) hrow2.par)
              (by rintro j (rfl | rfl | rfl) <;> omega) (by omega) (fun _ => rfl)
              (fun pre W' => DecAt w bl.length (setAll (dec bl cert k) pre) ds W') ?_ ?_ (fun W' hb => hI0.later hb) ?_ ?_
            · intro pre X X' j hX hj hb hs e1 e2 e3
              exact hX.same j (by omega) (fun h => by have := (hA1.at_ j h).2; omega) hb hs e1 e2 e3
            · intro pre X v hX
              exact hX.put (W1.heap.size + 1) 0 v (by omega) (fun h => by have := (hA1.at_ _ h).2; omega)
            · intro l pre x X hpre
              have hxl : x < bl.length := mem_ups hS.out.2 _ _ (by omega) (hpre.subset (by simp))
              gi_wp2
              refine ⟨trivial, fun X hX => ?_⟩
              have hbox := hX.box.cell 0
              have hrl := hX.row.lt
              have hrc := hX.row.cell x
              have hrf := hX.row.frozen x
              have hlen : (setAll (dec bl cert k) pre).length = bl.length := by rw [setAll_length, dec_length]
              have hxx := hX.set x
              have hHX := Lib.hid hX
              have hHS := Lib.hid hxx
              simp only [List.getElem?_toArray, List.getElem?_cons_zero] at hbox
              obtain ⟨bv, hrc'⟩ : ∃ bv, X.cell? ⟨w.heap.size, x, none⟩ = some (.bool bv) := by
                refine ⟨(setAll (dec bl cert k) pre)[x]'(by rw [hlen]; exact hxl), ?_⟩
                rw [hrc]
                simp [boolCells, hlen, hxl]
              clear hX hxx hrc hA1 hrow2 hI0 hp2 hq2 hB2 hHX
              gi_wp2

              refine ⟨KeepsOthers.setCell _ _ _, ?_, ?_⟩
              · rintro j (rfl | rfl | rfl) <;> exact Below.heap_setCell X _ _ _ (by simp; omega)
              · show DecAt w bl.length (setAll (dec bl cert k) (pre ++ [x])) ds _
                rw [setAll_snoc]
                exact hHS.out
            · intro X hX hD1 hlt
              have hX' := hX.mark (by omega) hlt (fun h => by have := (hA1.at_ _ h).2; omega) hD1
              have hHX := Lib.hid hX'
              clear hX hX' hD1 hA1 hrow2 hI0 hp2 hq2 hB2
              gi_wp2

              refine ⟨m - 1, by omega, decInv_next (ds := W2.heap.size :: ds) (k := k + 1) (by omega) ?_⟩
              rw [dec_good (by simp [hgood]), hS2.out]
              exact hHX.out
          · have hne : (r != rp + 1) = true := by simpa using hrr
            have hne' : (r == rp + 1) = false := by simpa using hrr
            gi_wp2
            gi_quiet (fail)
            gi_wp2
            refine ⟨m - 1, by omega, decInv_next (k := k + 1) (by omega) ?_⟩
            rw [dec_bad (by simp [hgood, hrr])]
            exact hA.out.later (below_drewN ((Below.refl _ W).alloc (Nat.le_refl _) _) nq)
end
end Go.Proofs.YtkcekjpohpenkaaDoor
