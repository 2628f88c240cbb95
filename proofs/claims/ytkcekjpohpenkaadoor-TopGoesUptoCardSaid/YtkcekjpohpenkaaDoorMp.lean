import Derived.RangeFuncNested
import Derived.RangeFuncBound
import Derived.RangeFuncCalls
import Derived.RangeFuncLeaves
import Derived.WalkKit
import Derived.OwnWalkIn
import Derived.TacticsInMore
import Derived.LoopIn
import Derived.Sort.LoopGhostIn
set_option linter.unusedVariables false
set_option linter.unusedSimpArgs false
namespace Go.Proofs.YtkcekjpohpenkaaDoor
open Go.RowKit

/-! ### a range over a function whose iterator keeps its place in a cell of its own: the law; what its loops leave -/
variable {F : Fence} {n : Nat} {P : Program}

/-- what a round must keep: the blocks of 'Kept' -/
def KeepB (Kept : Nat → Prop) (W W' : World) : Prop := ∀ k, Kept k → W'.heap[k]? = W.heap[k]?
theorem KeepB.trans {Kept : Nat → Prop} {A B C : World} (h : KeepB Kept A B) (h' : KeepB Kept B C) : KeepB Kept A C := fun k hk => (h' k hk).trans (h k hk)
theorem KeepB.put {Kept : Nat → Prop} (W : World) {l : Nat} (o : Obj) (hl : ¬ Kept l) : KeepB Kept W (W.putObj l o) := fun k hk => World.putObj_heap_other (by rintro rfl; exact hl hk)

/-- the iterator's word: the xs come in their order, whatever J the rounds carry on, if J abides a store into the cell p -/
def Gives {α : Type} (F : Fence) (n : Nat) (P : Program) (g : Nat) (lb : Array Value) (encs : α → Array Value) (Kept : Nat → Prop) (p : Nat) (xs : List α) (w : World) : Prop :=
  ∀ (l : Nat) (J : List α → World → Prop) (W : World), KeepB Kept w W →
    (∀ pre W1 v, J pre W1 → J pre (W1.setCell ⟨p, 0, none⟩ v)) →
    (∀ pre x W1, J pre W1 → pre ++ [x] <+: xs → YieldAt F (n - 1) P l (encs x) W1 fun e W' => e = .returned (.bool true) ∧ J (pre ++ [x]) W' ∧ KeepB Kept W1 W') →
    J [] W →
    CallsIn F n P g (#[.func (.yield l) #[] #[]] ++ lb) W fun e W' => (∃ v, e = .returned v) ∧ J xs W'

def goesOn {α : Type} (Kept : Nat → Prop) (I : List α → World → Prop) (xs : List α) (W : World) : Exit → Act → World → Prop
  | .normal, _, W' => KeepsOthers W W' ∧ KeepB Kept W W' ∧ I xs W'
  | _, _, _ => False

theorem wpIn_range_cell {α : Type} {g : Operand} {ps : Array Tmp} {assign body : Code} {Q : Exit → Act → World → Prop} {a : Act} {w : World}
    (hro : F.round = none) (h1 : 1 ≤ n) {gf : Nat} {lb : Array Value} (hg : a.eval g = .func (.func gf) #[] lb) (hFg : F.fn gf) (eg : ∀ args w, (callFunc gf args).run P w = .ok (.enter gf args) w)
    {encs : α → Array Value} {Kept : Nat → Prop} {p : Nat} {xs : List α} (hseq : Gives F (n - 1) P gf lb encs Kept p xs w)
    (hK : ∀ k, Kept k → k < w.heap.size) (hp : p < w.heap.size) (hps : ∀ x, (encs x).size = ps.size)
    (I : List α → World → Prop) (hI : ∀ pre W W' l, I pre W → w.heap.size ≤ l → (∀ k, k ≠ l → W'.heap[k]? = W.heap[k]?) → W.heap.size = W'.heap.size → W'.os = W.os → W'.tape = W.tape → W'.output = W.output → I pre W')
    (hIp : ∀ pre W v, I pre W → I pre (W.setCell ⟨p, 0, none⟩ v))
    (h0 : ∀ W, Below w.heap.size w W → I [] W)
    (hround : ∀ (l : Nat) (pre : List α) (x : α) (W : World), pre ++ [x] <+: xs →
      assign.wpIn (F.inRound l) (n - 1 - 1) P (Exit.then (fun a₁ W₁ => W = W₁ ∧ ∀ W2, I pre W2 → body.wpIn (F.inRound l) (n - 1 - 1) P (goesOn Kept I (pre ++ [x]) W2) a₁ W2) (fun _ _ _ => False))
        { tmps := (ps.zip (encs x)).foldl (fun t (p, v) => t.setIfInBounds p v) a.tmps, defers := [] } W)
    (hdone : ∀ (W : World), I xs W → W.heap[w.heap.size]? = some (.deferred (some [])) → w.heap.size < W.heap.size → Q .normal { a with defers := { target := .collected w.heap.size, args := #[] } :: a.defers } W) :
    (Code.rangeFunc g ps assign body).wpIn F n P Q a w := by
  refine wpIn_rangeFunc ?_
  intro fn hfn
  rw [hro]
  obtain ⟨rec, hrec⟩ : ∃ rec : LoopState → Loop, rec = fun st => { state := st, pending := none, fn, tmps := a.tmps, params := ps, assign, body, defers := w.heap.size } := ⟨_, rfl⟩
  obtain ⟨W1, hW1⟩ : ∃ W1, (w.alloc (.deferred (some []))).alloc (.loop (rec .ready)) = W1 := ⟨_, rfl⟩
  have hL1 : W1.heap[w.heap.size + 1]? = some (.loop (rec .ready)) := by
    rw [← hW1]; have := World.alloc_heap_new (w.alloc (.deferred (some []))) (.loop (rec .ready)); rwa [World.size_alloc] at this
  have hK1 : W1.heap[w.heap.size]? = some (.deferred (some [])) := by
    rw [← hW1]; exact (Below.heap_alloc _ _ _ (by simp)).trans (World.alloc_heap_new w _)
  have hB1 : Below w.heap.size w W1 := by rw [← hW1]; exact ((Below.refl _ w).alloc (Nat.le_refl _) _).alloc (by simp) _
  have hput : ∀ (pre : List α) (W : World) (o : Obj), I pre W → I pre (W.putObj (w.heap.size + 1) o) := fun pre W o hi =>
    hI pre W _ (w.heap.size + 1) hi (by omega) (fun k hk => World.putObj_heap_other hk) (by simp [World.putObj]) rfl rfl rfl
  have hnk : ¬ Kept (w.heap.size + 1) := fun h => by have := hK _ h; omega
  refine ⟨w.heap.size + 1, [{ target := .collected w.heap.size, args := #[] }], W1, { target := .fn (.func gf) lb, args := #[.func (.yield (w.heap.size + 1)) #[] #[]] }, W1, gf,
    #[.func (.yield (w.heap.size + 1)) #[] #[]] ++ lb, W1, ?_, ?_, ?_, ?_, fun _ => h1, ?_⟩
  · rw [← hW1, hrec]; exact run_enterLoop_outer _ _ _ _ _
  · simp only [resolve, hg]
    simp [go_sem]
  · intro f' hf'; simp [Target.leads] at hf'; subst hf'; exact hFg
  · simp [invoke, go_sem, eg]
  · refine (hseq (w.heap.size + 1)
      (fun pre W => I pre W ∧ W.heap[w.heap.size + 1]? = some (.loop (rec .ready)) ∧ W.heap[w.heap.size]? = some (.deferred (some [])))
      W1 (fun k hk => hB1.block k (hK k hk)) ?_ ?_ ⟨h0 _ hB1, hL1, hK1⟩).mono ?_
    · rintro pre W v ⟨hi, hl, hk⟩
      exact ⟨hIp _ _ _ hi, (Below.heap_setCell W _ v _ (by simp; omega)).trans hl, (Below.heap_setCell W _ v _ (by simp; omega)).trans hk⟩
    · rintro pre x W ⟨hi, hl, hk⟩ hpre
      have hlt : w.heap.size + 1 < W.heap.size := (Array.getElem?_eq_some_iff.1 hl).1
      have hy := run_yield (P := P) (args := encs x) hl (by rw [hrec]; exact hps x)
      rw [hrec] at hy
      refine ⟨fn, _, assign, body, hy, roundIn_of_wpIn hfn (wpIn_mono (hround _ pre x W hpre) ?_)⟩
      intro e0 a0 W0 hq0
      cases e0 with
      | ret => exact hq0.elim
      | exit id => exact hq0.elim
      | goto t => exact hq0.elim
      | panic ch => exact hq0.elim
      | outgrown => exact hq0.elim
      | normal => ?_
      obtain ⟨rfl, hb0⟩ := hq0
      refine ⟨_, run_beginRound hl (by rw [hrec]), ?_⟩
      have hl2 : (W.putObj (w.heap.size + 1) (.loop { rec .ready with state := .busy })).heap[w.heap.size + 1]? = some (.loop { rec .ready with state := .busy }) := World.putObj_heap_same hlt
      have hk2 : (W.putObj (w.heap.size + 1) (.loop { rec .ready with state := .busy })).heap[w.heap.size]? = some (.deferred (some [])) := (World.putObj_heap_other (by omega)).trans hk
      refine wpIn_mono (hb0 _ (hput _ _ _ hi)) ?_
      rintro e a3 W3 hp'
      cases e with
      | normal =>
        obtain ⟨hk3, hkp3, hi3⟩ := hp'
        have hl3 := hk3.same _ _ hl2 rfl
        have hr := run_endRound (P := P) none hl3
        refine ⟨_, _, hr, rfl, ⟨hput _ _ _ hi3, ?_, ?_⟩, ((KeepB.put W _ hnk).trans hkp3).trans (KeepB.put _ _ hnk)⟩
        · rw [World.putObj_heap_same (Array.getElem?_eq_some_iff.1 hl3).1, hrec]; rfl
        · exact (World.putObj_heap_other (by omega)).trans (hk3.same _ _ hk2 rfl)
      | ret => exact hp'.elim
      | exit id => exact hp'.elim
      | goto t => exact hp'.elim
      | panic ch => exact hp'.elim
      | outgrown => exact hp'.elim
    · rintro e W2 ⟨⟨v, rfl⟩, hi, hl, hk⟩
      refine ⟨none, _, by have := run_endLoop (P := P) hl (by rw [hrec]; simp); rw [hrec] at this; exact this, hdone _ (hput _ _ _ hi) ((World.putObj_heap_other (by omega)).trans hk) ?_⟩
      have := (Array.getElem?_eq_some_iff.1 hk).1
      simpa [World.putObj] using this

/-! ### marks -/
def marks (ds : List Nat) : List Deferred := ds.map fun D => { target := .collected D, args := #[] }
def MarksAt (W : World) (ds : List Nat) : Prop := ds.Nodup ∧ ∀ D ∈ ds, W.heap[D]? = some (.deferred (some []))

theorem MarksAt.putObj {W : World} {D : Nat} {ds : List Nat} (h : MarksAt W ds) (hD : D ∉ ds) (o : Obj) : MarksAt (W.putObj D o) ds :=
  ⟨h.1, fun E hE => (World.putObj_heap_other (by rintro rfl; exact hD hE)).trans (h.2 E hE)⟩

theorem leaves_marks {fn : Func} {tmps : Array Value} {R : Ending → World → Prop} : ∀ (ds : List Nat) (W : World), MarksAt W ds →
    (∀ W', W'.os = W.os → W'.tape = W.tape → W'.output = W.output → W'.heap.size = W.heap.size → (∀ k, k ∉ ds → W'.heap[k]? = W.heap[k]?) → LeavesIn F n P fn tmps R [] .returning W') →
    LeavesInM F n P fn tmps R (marks ds) .returning W
  | [], W, _, h => h W rfl rfl rfl rfl fun _ _ => rfl
  | D :: ds, W, hm, h => by
    obtain ⟨hnd, hat⟩ := hm
    obtain ⟨hD, hnd⟩ := List.nodup_cons.1 hnd
    refine ⟨by simp, .inl ⟨D, _, rfl, run_takeDeferred (hat D (by simp)), ?_⟩⟩
    refine leaves_marks ds _ (MarksAt.putObj ⟨hnd, fun E hE => hat E (by simp [hE])⟩ hD _) fun W' h1 h2 h3 h4 h5 => ?_
    refine h W' h1 h2 h3 (by rw [h4]; simp [World.putObj]) fun k hk => ?_
    simp only [List.mem_cons, not_or] at hk
    exact (h5 k hk.2).trans (World.putObj_heap_other hk.1)

end Go.Proofs.YtkcekjpohpenkaaDoor
