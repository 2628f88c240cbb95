import Derived.Test.YtkcekjpohpenkaaDoorMv
import Derived.RangeFuncBox
import Derived.Maps.AppendAt
/- slices.Collect over chain.Up; slices.Reverse; chain.Path. -/
set_option linter.unusedVariables false
set_option linter.unusedSimpArgs false
set_option maxRecDepth 100000
namespace Go.Proofs.YtkcekjpohpenkaaDoor
open Go.RowKit Mo
attribute [local go_sem] Oper.semAt_some

section
variable {F : Fence} {n : Nat} {P : Program}
/-- the law of XMp, for rounds that make memory: the loop's record is no cells -/
theorem wpIn_range_cellL {α : Type} {g : Operand} {ps : Array Tmp} {assign body : Code} {Q : Exit → Act → World → Prop} {a : Act} {w : World}
    (hro : F.round = none) (h1 : 1 ≤ n) {gf : Nat} {lb : Array Value} (hg : a.eval g = .func (.func gf) #[] lb) (hFg : F.fn gf) (eg : ∀ args w, (callFunc gf args).run P w = .ok (.enter gf args) w)
    {encs : α → Array Value} {Kept : Nat → Prop} {p : Nat} {xs : List α} (hseq : Gives F (n - 1) P gf lb encs Kept p xs w)
    (hK : ∀ k, Kept k → k < w.heap.size) (hp : p < w.heap.size) (hps : ∀ x, (encs x).size = ps.size)
    (I : List α → World → Prop) (hI : ∀ pre W W' l r, I pre W → w.heap.size ≤ l → W.heap[l]? = some (.loop r) → (∀ k, k ≠ l → W'.heap[k]? = W.heap[k]?) → W.heap.size = W'.heap.size → W'.os = W.os → W'.tape = W.tape → W'.output = W.output → I pre W')
    (hIp : ∀ pre W v, I pre W → I pre (W.setCell ⟨p, 0, none⟩ v))
    (h0 : ∀ W, Below w.heap.size w W → I [] W)
    (hround : ∀ (l : Nat) (pre : List α) (x : α) (W : World), pre ++ [x] <+: xs →
      assign.wpIn (F.inRound l) (n - 1 - 1) P (Exit.then (fun a₁ W₁ => W = W₁ ∧ ∀ W2, I pre W2 → body.wpIn (F.inRound l) (n - 1 - 1) P (goesOn Kept I (pre ++ [x]) W2) a₁ W2) (fun _ _ _ => False))
        { tmps := (ps.zip (encs x)).foldl (fun t (p, v) => t.setIfInBounds p v) a.tmps, defers := [] } W)
    (hdone : ∀ (W : World), I xs W → W.heap[w.heap.size]? = some (.deferred (some [])) → w.heap.size < W.heap.size → Q .normal { a with defers := { target := .collected w.heap.size, args := #[] } :: a.defers } W) :
    (Code.rangeFunc g ps assign body).wpIn F n P Q a w := by
  refine wpIn_rangeFunc ?_
  intro fn hfn
  rw [hro]
  obtain ⟨rec, hrec⟩ : ∃ rec : LoopState → Loop, rec = fun st => { state := st, pending := none, fn, tmps := a.tmps, params := ps, assign, body, defers := w.heap.size } := ⟨_, rfl⟩
  obtain ⟨W1, hW1⟩ : ∃ W1, (w.alloc (.deferred (some []))).alloc (.loop (rec .ready)) = W1 := ⟨_, rfl⟩
  have hL1 : W1.heap[w.heap.size + 1]? = some (.loop (rec .ready)) := by
    rw [← hW1]; have := World.alloc_heap_new (w.alloc (.deferred (some []))) (.loop (rec .ready)); rwa [World.size_alloc] at this
  have hK1 : W1.heap[w.heap.size]? = some (.deferred (some [])) := by
    rw [← hW1]; exact (Below.heap_alloc _ _ _ (by simp)).trans (World.alloc_heap_new w _)
  have hB1 : Below w.heap.size w W1 := by rw [← hW1]; exact ((Below.refl _ w).alloc (Nat.le_refl _) _).alloc (by simp) _
  have hput : ∀ (pre : List α) (W : World) (o : Obj) (r : Loop), I pre W → W.heap[w.heap.size + 1]? = some (.loop r) → I pre (W.putObj (w.heap.size + 1) o) := fun pre W o r hi hl =>
    hI pre W _ (w.heap.size + 1) r hi (by omega) hl (fun k hk => World.putObj_heap_other hk) (by simp [World.putObj]) rfl rfl rfl
  have hnk : ¬ Kept (w.heap.size + 1) := fun h => by have := hK _ h; omega
  refine ⟨w.heap.size + 1, [{ target := .collected w.heap.size, args := #[] }], W1, { target := .fn (.func gf) lb, args := #[.func (.yield (w.heap.size + 1)) #[] #[]] }, W1, gf,
    #[.func (.yield (w.heap.size + 1)) #[] #[]] ++ lb, W1, ?_, ?_, ?_, ?_, fun _ => h1, ?_⟩
  · rw [← hW1, hrec]; exact run_enterLoop_outer _ _ _ _ _
  · simp only [resolve, hg]
    simp [go_sem]
  · intro f' hf'; simp [Target.leads] at hf'; subst hf'; exact hFg
  · simp [invoke, go_sem, eg]
  · refine (hseq (w.heap.size + 1)
      (fun pre W => I pre W ∧ W.heap[w.heap.size + 1]? = some (.loop (rec .ready)) ∧ W.heap[w.heap.size]? = some (.deferred (some [])))
      W1 (fun k hk => hB1.block k (hK k hk)) ?_ ?_ ⟨h0 _ hB1, hL1, hK1⟩).mono ?_
    · rintro pre W v ⟨hi, hl, hk⟩
      exact ⟨hIp _ _ _ hi, (Below.heap_setCell W _ v _ (by simp; omega)).trans hl, (Below.heap_setCell W _ v _ (by simp; omega)).trans hk⟩
    · rintro pre x W ⟨hi, hl, hk⟩ hpre
      have hlt : w.heap.size + 1 < W.heap.size := (Array.getElem?_eq_some_iff.1 hl).1
      have hy := run_yield (P := P) (args := encs x) hl (by rw [hrec]; exact hps x)
      rw [hrec] at hy
      refine ⟨fn, _, assign, body, hy, roundIn_of_wpIn hfn (wpIn_mono (hround _ pre x W hpre) ?_)⟩
      intro e0 a0 W0 hq0
      cases e0 with
      | ret => exact hq0.elim
      | exit id => exact hq0.elim
      | goto t => exact hq0.elim
      | panic ch => exact hq0.elim
      | outgrown => exact hq0.elim
      | normal => ?_
      obtain ⟨rfl, hb0⟩ := hq0
      refine ⟨_, run_beginRound hl (by rw [hrec]), ?_⟩
      have hl2 : (W.putObj (w.heap.size + 1) (.loop { rec .ready with state := .busy })).heap[w.heap.size + 1]? = some (.loop { rec .ready with state := .busy }) := World.putObj_heap_same hlt
      have hk2 : (W.putObj (w.heap.size + 1) (.loop { rec .ready with state := .busy })).heap[w.heap.size]? = some (.deferred (some [])) := (World.putObj_heap_other (by omega)).trans hk
      refine wpIn_mono (hb0 _ (hput _ _ _ _ hi hl)) ?_
      rintro e a3 W3 hp'
      cases e with
      | normal =>
        obtain ⟨hk3, hkp3, hi3⟩ := hp'
        have hl3 := hk3.same _ _ hl2 rfl
        have hr := run_endRound (P := P) none hl3
        refine ⟨_, _, hr, rfl, ⟨hput _ _ _ _ hi3 hl3, ?_, ?_⟩, ((KeepB.put W _ hnk).trans hkp3).trans (KeepB.put _ _ hnk)⟩
        · rw [World.putObj_heap_same (Array.getElem?_eq_some_iff.1 hl3).1, hrec]; rfl
        · exact (World.putObj_heap_other (by omega)).trans (hk3.same _ _ hk2 rfl)
      | ret => exact hp'.elim
      | exit id => exact hp'.elim
      | goto t => exact hp'.elim
      | panic ch => exact hp'.elim
      | outgrown => exact hp'.elim
    · rintro e W2 ⟨⟨v, rfl⟩, hi, hl, hk⟩
      refine ⟨none, _, by have := run_endLoop (P := P) hl (by rw [hrec]; simp); rw [hrec] at this; exact this, hdone _ (hput _ _ _ _ hi hl) ((World.putObj_heap_other (by omega)).trans hk) ?_⟩
      have := (Array.getElem?_eq_some_iff.1 hk).1
      simpa [World.putObj] using this

end

def intL (l : List Nat) : List Value := l.map fun x : Nat => Value.int .i64 x
theorem info_int : (Tryd.prog.info? 3).map (fun i => (i.zero, i.size, i.bytes)) = some (some (.int .i64 0), 1, 8) := by kernel_rfl

/-- what was collected -/
def CollectAt (w : World) (p : Nat) (xs : List Nat) (e : Ending) (w' : World) : Prop :=
  ∃ g c, e = .returned (.slice (some ⟨g, 0, none⟩) xs.length c) ∧ Own w' w.heap.size 3 1 g c xs.length (intL xs) ∧ w.grownBy w' (some p)

theorem ups_len {bl : List (Int × Int)} : ∀ (f : Nat) (b : Int), (ups bl f b).length ≤ f
  | 0, _ => by simp [ups]
  | f + 1, b => by
    unfold ups
    split
    · simp
    · have := ups_len (bl := bl) f (bl.getD b.toNat (0, 0)).1
      simp only [List.length_cons]
      omega

def SeqI (w : World) (p : Nat) (pre : List Nat) (W : World) : Prop :=
  (∃ v, Boxed W w.heap.size 57 v ∧ W.ownsRow w.heap.size 3 1 v pre.length (intL pre)) ∧ w.grownBy W (some p)

set_option maxHeartbeats 2000000 in
theorem appendSeq_calls (w : World) (p q gb len cap : Nat) (bl : List (Int × Int)) (b : Int) (hlen : len = bl.length) (h40 : bl.length ≤ 40) (hpq : p ≠ q) (hpg : p ≠ gb) (hch : Chain bl) (hb : 0 ≤ b) (hbl : b < bl.length)
    (hp : Blk w p 3 #[.int .i64 b]) (hq : w.cell? ⟨q, 0, none⟩ = some (.slice (some ⟨gb, 0, none⟩) len cap)) (hqs : q < w.heap.size) (hg : Pars w gb bl) (hgb : gb < w.heap.size) :
    Calls Tryd.prog 37 #[.slice none 0 0, .func (.func 38) #[] #[.pointer (some ⟨p, 0, none⟩), .pointer (some ⟨q, 0, none⟩)]] w (CollectAt w p (upsFull bl b)) := by
  have hpl := hp.lt
  have hl40 : (upsFull bl b).length ≤ 41 := Nat.le_trans (ups_len _ _) (by omega)
  refine (callsIn_wide (n := 3)).1 ?_
  refine callsIn_of_wp_marks Tryd.func37 rfl trivial ?_ rfl
  simp only [Tryd.ntmps37, List.size_toArray, List.length_cons, List.length_nil, Nat.reduceAdd, Nat.reduceSub, Array.replicate_succ, Array.replicate_zero, List.push_toArray, List.append_toArray, List.nil_append, List.cons_append]
  gi_wp2
  have hB1 : Below w.heap.size w (w.alloc (.cells #[.slice none 0 0] 57)) := (Below.refl _ w).alloc (Nat.le_refl _) _
  have hsz : (w.alloc (.cells #[.slice none 0 0] 57)).heap.size = w.heap.size + 1 := by simp
  have hI0 : SeqI w p [] (w.alloc (.cells #[.slice none 0 0] 57)) := ⟨⟨_, Boxed.new w _ _, World.ownsRow_nil _ _ _ _⟩, ⟨rfl, rfl, rfl, by simp, fun i hi _ => Below.heap_alloc w _ i hi⟩⟩
  have hp1 := hp.below hB1 hpl
  have hq1 := (hB1.cell (p := ⟨q, 0, none⟩) hqs).trans hq
  have hg1 : Pars (w.alloc (.cells #[.slice none 0 0] 57)) gb bl := fun i hi => (hB1.cell (p := ⟨gb, i * 2, none⟩) hgb).trans (hg i hi)
  generalize w.alloc (.cells #[.slice none 0 0] 57) = W1 at hB1 hsz hI0 hp1 hq1 hg1 ⊢
  refine wpIn_range_cellL (α := Nat) (encs := fun x : Nat => #[.int .i64 x]) (Kept := fun k => k = p ∨ k = q ∨ k = gb) (p := p) (xs := upsFull bl b) rfl (by omega) rfl trivial (enters_own Tryd.func38 (by kernel_rfl) rfl)
    (up_gives Fence.wide 2 trivial rfl (by omega) W1 p q gb len cap bl b hlen h40 hpq hpg hch (by omega) hbl _ (.inl rfl) (.inr (.inl rfl)) (.inr (.inr rfl)) hp1 hq1 hg1)
    (by rintro j (rfl | rfl | rfl) <;> omega) (by omega) (fun _ => rfl) (fun pre W' => SeqI w p pre W') ?_ ?_ ?_ ?_ ?_
  · rintro pre X X' j r ⟨⟨v, hv, hrow⟩, hgr⟩ hj hl hbk hs e1 e2 e3
    refine ⟨⟨v, ?_, row_turned hrow (fun g cs hg => hbk g ?_)⟩, ⟨e1.trans hgr.os, e2.trans hgr.tape, e3.trans hgr.output, by rw [← hs]; exact hgr.size, fun i hi hne => (hbk i (by omega)).trans (hgr.block i hi hne)⟩⟩
    · refine (hbk _ ?_).trans hv
      rintro rfl
      unfold Boxed at hv
      rw [hl] at hv
      cases hv
    · rintro rfl
      unfold Blk at hg
      rw [hl] at hg
      cases hg
  · rintro pre X v' ⟨⟨v, hv, hrow⟩, hgr⟩
    refine ⟨⟨v, (Below.heap_setCell X _ v' _ (by simp; omega)).trans hv, ownsRow_setCell_below hrow hpl v'⟩, ⟨hgr.os, hgr.tape, hgr.output, by simpa [World.setCell] using hgr.size, fun i hi hne => (Below.heap_setCell X _ v' i (by rintro rfl; exact hne rfl)).trans (hgr.block i hi hne)⟩⟩
  · intro W hb
    obtain ⟨⟨v, hv, hrow⟩, hgr⟩ := hI0
    have hv' : Boxed W w.heap.size 57 v := (hb.block _ (by omega)).trans hv
    refine ⟨⟨v, hv', row_turned hrow (fun g cs hg => hb.block g hg.lt)⟩, ⟨hb.os.trans hgr.os, hb.tape.trans hgr.tape, hb.output.trans hgr.output, Nat.le_trans hgr.size hb.size, fun i hi hne => (hb.block i (by omega)).trans (hgr.block i hi hne)⟩⟩
  · intro l pre x W hpre
    gi_wp2
    refine ⟨trivial, fun X hX => ?_⟩
    obtain ⟨⟨v, hv, hrow⟩, hgr⟩ := hX
    have hlp : pre.length + 1 ≤ 41 := by
      have := hpre.length_le
      simp at this
      omega
    have hc := hv.cell
    have hf := hv.frozen
    have hlv := hv.lt
    have HV := Lib.hid hv
    have HR := Lib.hid hrow
    have HG := Lib.hid hgr
    obtain ⟨i0, hi0, hz0, hz1, hz2⟩ := info_parts info_int
    have HI := Lib.hid (And.intro hi0 (And.intro hz0 (And.intro hz1 hz2)))
    clear hv hrow hgr hi0 hz0 hz1 hz2 hp hq hg hp1 hq1 hg1 hI0 hB1
    gi_wp2_with (gi_at_builtin; refine wpListIn_append_own _ rfl (.tmp 8) (.tmp 10) 57 rfl w.heap.size 3 i0 _ 1 8 Tryd.underlying57 HI.out.1 HI.out.2.1 HI.out.2.2.1 HI.out.2.2.2 rfl (by omega) v pre.length (intL pre) (by rfl) (HR.out.alloc _) ⟨X.heap.size, 0, none⟩ 1 1 [.int .i64 x] (by rfl) (by rfl) (World.news_of_block (cs := #[.int .i64 x]) (t := 3) (fr := (0, 0)) (heap_alloc_new X _)) (by simp [Value.oneCell']) (by unfold maxLen; omega) (by omega) (by simp; omega) ?_; intro v' w1 hown' hgrow _; obtain ⟨g', cap', rfl⟩ := ownsRow_succ hown'; obtain ⟨hv1, hv2, hr2, hk2, hb2⟩ := HV.out.appended (by decide) HR.out (by omega) (Nat.le_refl _) hown' hgrow; have hc1 := hv1.cell; have hf1 := hv1.frozen; have HV2 := Lib.hid hv2; have HR2 := Lib.hid hr2; have HK2 := Lib.hid hk2; have HB2 := Lib.hid hb2; clear hown' hgrow hv1 hv2 hr2 hk2 hb2)
    refine ⟨HK2.out, ?_, ⟨_, HV2.out, ?_⟩, ⟨HB2.out.os.trans HG.out.os, HB2.out.tape.trans HG.out.tape, HB2.out.output.trans HG.out.output, Nat.le_trans HG.out.size HB2.out.size, fun i hi hne => (HB2.out.block i hi).trans (HG.out.block i hi hne)⟩⟩
    · rintro j (rfl | rfl | rfl)
      · exact HB2.out.block _ hpl
      · exact HB2.out.block _ hqs
      · exact HB2.out.block _ hgb
    · simpa [intL] using HR2.out
  · intro X hX hD1 hlt
    obtain ⟨⟨v, hv, hrow⟩, hgr⟩ := hX
    have hpos : 0 < (upsFull bl b).length := by
      unfold upsFull
      rw [show (b + 1).toNat = b.toNat + 1 by omega, ups_step hb]
      simp
    obtain ⟨g, c, hvv, hge, hgl⟩ := hrow.form hpos
    subst hvv
    have hc := hv.cell
    have hlv := hv.lt
    have HR := Lib.hid hrow
    have HG := Lib.hid hgr
    have HD := Lib.hid hD1
    clear hv hrow hgr hp hq hg hp1 hq1 hg1 hI0 hB1 hD1
    gi_wp2
    refine leaves_marks [W1.heap.size] X ⟨by simp, by simpa using HD.out⟩ fun W' e1 e2 e3 e4 e5 => ?_
    have hgd : g ≠ W1.heap.size := by
      rintro rfl
      obtain ⟨cur, hb, _⟩ := Own.blk HR.out
      unfold Blk at hb
      rw [HD.out] at hb
      cases hb
    refine ⟨_, results_tmp rfl _ _ _, g, c, rfl, Own.same HR.out (e5 g (by simpa using hgd)), ⟨e1.trans HG.out.os, e2.trans HG.out.tape, e3.trans HG.out.output, by rw [e4]; exact HG.out.size, fun i hi hne => (e5 i (by simp; omega)).trans (HG.out.block i hi hne)⟩⟩

set_option maxHeartbeats 1000000 in
theorem collect_calls (w : World) (p q gb len cap : Nat) (bl : List (Int × Int)) (b : Int) (hlen : len = bl.length) (h40 : bl.length ≤ 40) (hpq : p ≠ q) (hpg : p ≠ gb) (hch : Chain bl) (hb : 0 ≤ b) (hbl : b < bl.length)
    (hp : Blk w p 3 #[.int .i64 b]) (hq : w.cell? ⟨q, 0, none⟩ = some (.slice (some ⟨gb, 0, none⟩) len cap)) (hqs : q < w.heap.size) (hg : Pars w gb bl) (hgb : gb < w.heap.size) :
    Calls Tryd.prog 23 #[.func (.func 38) #[] #[.pointer (some ⟨p, 0, none⟩), .pointer (some ⟨q, 0, none⟩)]] w (CollectAt w p (upsFull bl b)) := by
  have H := Lib.hid (appendSeq_calls w p q gb len cap bl b hlen h40 hpq hpg hch hb hbl hp hq hqs hg hgb)
  clear hp hq hg
  go_enter Tryd.func23, Tryd.ntmps23
  go_wp2_with (go_at_call 37; refine (H.out).mono ?_; rintro e w' ⟨g, c, rfl, h1, h2⟩; have H1 := Lib.hid (And.intro h1 h2); clear h1 h2)
  go_ret
  exact ⟨g, c, rfl, H1.out.1, H1.out.2⟩
end Go.Proofs.YtkcekjpohpenkaaDoor
