import Derived.Test.YtkcekjpohpenkaaDoorPc
import Derived.BigRegion
/- slices.Reverse; chain.Path. -/
set_option linter.unusedVariables false
set_option linter.unusedSimpArgs false
set_option maxRecDepth 100000
namespace Go.Proofs.YtkcekjpohpenkaaDoor
open Go.RowKit Mo

/-- as far as k from the head and from j on to the end the list is turned round -/
structure Half (xs ys : List Nat) (k j : Nat) : Prop where
  len : ys.length = xs.length
  kj : k + j + 1 = xs.length
  le : k ≤ j + 1
  at_ : ∀ t, t < xs.length → ys.getD t 0 = if t < k ∨ j < t then xs.getD (xs.length - 1 - t) 0 else xs.getD t 0
theorem Half.start {xs : List Nat} (h : 0 < xs.length) : Half xs xs 0 (xs.length - 1) := ⟨rfl, by omega, by omega, fun t ht => by rw [if_neg (by omega)]⟩
theorem Half.next {xs ys : List Nat} {k j : Nat} (h : Half xs ys k j) (hlt : k < j) : Half xs ((ys.set k (ys.getD j 0)).set j (ys.getD k 0)) (k + 1) (j - 1) := by
  have hl := h.len
  have hkj := h.kj
  refine ⟨by simp [hl], by omega, by omega, fun t ht => ?_⟩
  by_cases e1 : j = t
  · subst e1
    rw [Mo.getD_set_eq _ _ _ (by simp; omega), h.at_ k (by omega), if_neg (by omega), if_pos (by omega), show xs.length - 1 - j = k by omega]
  · rw [Mo.getD_set_ne _ _ _ e1]
    by_cases e2 : k = t
    · subst e2
      rw [Mo.getD_set_eq _ _ _ (by omega), h.at_ j (by omega), if_neg (by omega), if_pos (by omega), show xs.length - 1 - k = j by omega]
    · rw [Mo.getD_set_ne _ _ _ e2, h.at_ t ht]
      by_cases c : t < k ∨ j < t
      · rw [if_pos c, if_pos (by omega)]
      · rw [if_neg c, if_neg (by omega)]
theorem Half.done {xs ys : List Nat} {k j : Nat} (h : Half xs ys k j) (hge : ¬ k < j) : ys = xs.reverse := by
  have hkj := h.kj
  have hle := h.le
  refine List.ext_getElem (by simp [h.len]) fun t h1 h2 => ?_
  have ht : t < xs.length := by rw [← h.len]; exact h1
  have := h.at_ t ht
  rw [List.getElem_reverse]
  have e1 : ys.getD t 0 = ys[t] := by simp [h1]
  have e2 : ∀ i (hi : i < xs.length), xs.getD i 0 = xs[i] := fun i hi => by simp [hi]
  rw [e1] at this
  rw [this]
  split
  · exact e2 _ (by omega)
  · rw [e2 _ ht]
    congr 1
    omega

theorem intL_set (l : List Nat) (i x : Nat) : (intL l).set i (.int .i64 x) = intL (l.set i x) := by simp [intL, List.map_set]
theorem intL_at (l : List Nat) (i : Nat) (h : i < l.length) : (intL l)[i]? = some (.int .i64 ((l.getD i 0 : Nat) : Int)) := by simp [intL, h]

/-- a row turned, all else as it was -/
def TurnedRow (w : World) (B g c : Nat) (xs : List Nat) (e : Ending) (w' : World) : Prop :=
  e = .returned (.tuple #[]) ∧ Own w' B 3 1 g c xs.length (intL xs) ∧ w.grownBy w' (some g)

set_option maxHeartbeats 2000000 in
theorem reverse_calls (w : World) (B g c : Nat) (xs : List Nat) (h0 : 0 < xs.length) (h41 : xs.length ≤ 41) (h : Own w B 3 1 g c xs.length (intL xs)) :
    Calls Tryd.prog 25 #[.slice (some ⟨g, 0, none⟩) xs.length c] w (TurnedRow w B g c xs.reverse) := by
  have H := Lib.hid h
  clear h
  go_enter Tryd.func25, Tryd.ntmps25
  go_wp2_with fail
  go_loopw [2, 3] (fun i j wr => ∃ (k l : Nat) (ys : List Nat), i = .int .i64 k ∧ j = .int .i64 l ∧ Half xs ys k l ∧ Own wr B 3 1 g c xs.length (intL ys) ∧ w.grownBy wr (some g)) (fun i _ _ => xs.length - (intOf i).toNat)
  case atStart => exact ⟨0, xs.length - 1, xs, rfl, by congr 1; omega, Half.start h0, H.out, World.grownBy.refl w _⟩
  case round =>
    obtain ⟨k, l, ys, rfl, rfl, hH, hO, hG⟩ := hrel
    have HH := Lib.hid hH
    have HO := Lib.hid hO
    have HG := Lib.hid hG
    have hkl := hH.kj
    have hle := hH.le
    have hyl := hH.len
    by_cases hlt : k < l
    · have c1 := Own.cell hO (intL_at ys k (by omega))
      have c2 := Own.cell hO (intL_at ys l (by omega))
      have f1 := hO.frozenAt k
      have f2 := hO.frozenAt l
      have hne : k ≠ l := by omega
      have hne2 : l ≠ k := by omega
      have HY := Lib.hid hyl
      clear hH hO hG hyl
      generalize hx1 : ys.getD k 0 = x1 at c1
      generalize hx2 : ys.getD l 0 = x2 at c2
      have HX := Lib.hid (And.intro hx1 hx2)
      clear hx1 hx2
      have d1 := fun n v => (World.cell?_setCell_other (wr.drewN n) ⟨g, k, none⟩ ⟨g, l, none⟩ v (by simp [hne])).trans c2
      go_wp2_with fail
      go_region
      all_goals go_wp2_with fail
      all_goals go_roundw
      case measure => simp [intOf]; omega
      have s1 := (HO.out.stored k (.int .i64 x2)).1
      have s2 := (World.ownsRow.stored s1 l (.int .i64 x1)).1
      rw [intL_set, intL_set] at s2
      refine ⟨k + 1, l - 1, (ys.set k x2).set l x1, by simp, by congr 1; omega, ?_, Own.same s2 rfl, ?_⟩
      · have := HH.out.next hlt
        rwa [HX.out.1, HX.out.2] at this
      · have one : ∀ (W : World) (j : Nat) (v : Value), w.grownBy W (some g) → w.grownBy (W.setCell ⟨g, j, none⟩ v) (some g) := fun W j v h =>
          ⟨h.os, h.tape, h.output, by simpa [World.setCell] using h.size, fun i hi hne => (Below.heap_setCell W _ v i (by rintro rfl; exact hne rfl)).trans (h.block i hi hne)⟩
        have := one _ l (.int .i64 x1) (one _ k (.int .i64 x2) HG.out)
        exact ⟨this.os, this.tape, this.output, this.size, this.block⟩
    · have e := hH.done hlt
      clear hH hO hG hyl
      go_wp2_with fail
      go_end0
      refine ⟨rfl, ?_, HG.out⟩
      rw [List.length_reverse, ← e]
      exact HO.out

theorem own_base {w : World} {B B' size g cap n : Nat} {e : TypeId} {xs : List Value} (h : Own w B e size g cap n xs) (hB : B' ≤ B) : Own w B' e size g cap n xs := by
  refine ⟨h.1, ?_⟩
  rcases h.2 with hn | ⟨g', cap', cur, h', hb, rest⟩
  · exact .inl hn
  · exact .inr ⟨g', cap', cur, h', Nat.le_trans hB hb, rest⟩
/-- the path to a block -/
def path (bl : List (Int × Int)) (b : Int) : List Nat := (upsFull bl b).reverse
def PathAt (w : World) (bl : List (Int × Int)) (b : Int) (e : Ending) (w' : World) : Prop :=
  ∃ g c, e = .returned (.tuple #[.slice (some ⟨g, 0, none⟩) (path bl b).length c, .int .i64 0]) ∧ Own w' w.heap.size 3 1 g c (path bl b).length (intL (path bl b)) ∧ Below w.heap.size w w'

set_option maxHeartbeats 1000000 in
theorem chainPath_calls (w : World) (gb cap : Nat) (bl : List (Int × Int)) (hc : Chn bl) (hr : BRow w gb bl) (b : Nat) (hb : b < bl.length) :
    Calls Tryd.prog 13 #[.slice (some ⟨gb, 0, none⟩) bl.length cap, .int .i64 b] w (PathAt w bl b) := by
  have hck := Lib.hid (check_calls (cap := cap) hr hc)
  have HR := Lib.hid hr
  have HC := Lib.hid hc
  have l40 := hc.len40
  have hgb := hr.gb
  clear hr hc
  go_enter Tryd.func13, Tryd.ntmps13
  go_wp2_with (go_at_call 22; refine (hck.out).mono ?_; rintro e w1 ⟨rfl, hb1⟩; have HB1 := Lib.hid hb1; clear hb1)
  refine (up_calls _ _ _ _ _).mono ?_
  rintro e w' ⟨rfl, rfl⟩
  have hb2 : Below w1.heap.size w1 ((w1.alloc (.cells #[.slice (some ⟨gb, 0, none⟩) bl.length cap] 27)).alloc (.cells #[.int .i64 (b : Int)] 3)) := ((Below.refl _ w1).alloc (Nat.le_refl _) _).alloc (by simp) _
  have hp2 := Blk.new (w1.alloc (.cells #[.slice (some ⟨gb, 0, none⟩) bl.length cap] 27)) 3 #[.int .i64 (b : Int)]
  have hq2 := (Blk.new w1 27 #[.slice (some ⟨gb, 0, none⟩) bl.length cap]).alloc (.cells #[.int .i64 (b : Int)] 3)
  rw [World.size_alloc] at hp2
  have hsz : ((w1.alloc (.cells #[.slice (some ⟨gb, 0, none⟩) bl.length cap] 27)).alloc (.cells #[.int .i64 (b : Int)] 3)).heap.size = w1.heap.size + 2 := by simp
  have hs1 := HB1.out.size
  have hg1 : gb < w1.heap.size := by omega
  have hr2 := (HR.out.below hgb HB1.out).below hg1 hb2
  generalize (w1.alloc (.cells #[.slice (some ⟨gb, 0, none⟩) bl.length cap] 27)).alloc (.cells #[.int .i64 (b : Int)] 3) = W2 at hb2 hp2 hq2 hsz hr2 ⊢
  have hcol := Lib.hid (collect_calls W2 (w1.heap.size + 1) w1.heap.size gb bl.length cap bl b rfl l40 (by omega) (by omega) HC.out.chain (by omega) (by omega) hp2 (hq2.cell 0) (by omega) hr2.par (by omega))
  have HB2 := Lib.hid hb2
  have hpos : 0 < (upsFull bl b).length := by
    unfold upsFull
    rw [show ((b : Int) + 1).toNat = b + 1 by omega, ups_step (by omega)]
    simp
  have hle : (upsFull bl b).length ≤ 41 := Nat.le_trans (ups_len _ _) (by omega)
  clear hb2 hp2 hq2 hr2
  go_wp2_with fail
  refine (hcol.out).mono ?_
  rintro e w3 ⟨g, c, rfl, hO3, hG3⟩
  have hrev := Lib.hid (reverse_calls w3 W2.heap.size g c (upsFull bl b) hpos hle hO3)
  have hgg := hO3.ge
  have HG3 := Lib.hid hG3
  clear hO3 hG3
  go_wp2_with fail
  refine (hrev.out).mono ?_
  rintro e w4 ⟨rfl, hO4, hG4⟩
  have HO4 := Lib.hid hO4
  have HG4 := Lib.hid hG4
  clear hO4 hG4
  go_wp2_with fail
  go_ret2
  refine ⟨g, c, ?_, ?_, ?_⟩
  · unfold path; rw [List.length_reverse]; rfl
  · exact own_base HO4.out (by omega)
  · refine ⟨HG4.out.os.trans (HG3.out.os.trans (HB2.out.os.trans HB1.out.os)), HG4.out.tape.trans (HG3.out.tape.trans (HB2.out.tape.trans HB1.out.tape)), HG4.out.output.trans (HG3.out.output.trans (HB2.out.output.trans HB1.out.output)), ?_, fun i hi => ?_⟩
    · have := HG4.out.size; have := HG3.out.size; omega
    · have := HG3.out.size
      exact ((HG4.out.block i (by omega) (fun e => by cases e; omega)).trans (HG3.out.block i (by omega) (fun e => by cases e; omega))).trans ((HB2.out.block i (by omega)).trans (HB1.out.block i hi))
end Go.Proofs.YtkcekjpohpenkaaDoor
