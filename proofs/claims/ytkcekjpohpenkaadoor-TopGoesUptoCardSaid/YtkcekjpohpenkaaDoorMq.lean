import Derived.Test.YtkcekjpohpenkaaDoorMp
import Derived.Test.YtkcekjpohpenkaaDoorMe
set_option linter.unusedVariables false
set_option linter.unusedSimpArgs false
namespace Go.Proofs.YtkcekjpohpenkaaDoor
open Go.RowKit Mo

attribute [local go_sem] Oper.semAt_some

/-- a block, its parent, and so on -/
def ups (bl : List (Int × Int)) : Nat → Int → List Nat
  | 0, _ => []
  | f + 1, b => if b < 0 then [] else b.toNat :: ups bl f (bl.getD b.toNat (0, 0)).1

/-- numbers of blocks whose parents are less -/
def Chain (bl : List (Int × Int)) : Prop := ∀ b, b < bl.length → -1 ≤ (bl.getD b (0, 0)).1 ∧ (bl.getD b (0, 0)).1 < b

def upsFull (bl : List (Int × Int)) (b : Int) : List Nat := ups bl (b + 1).toNat b

theorem up_calls (w : World) (g : Option Addr) (len cap : Nat) (b : Int) :
    Calls Tryd.prog 24 #[.slice g len cap, .int .i64 b] w fun e w' => e = .returned (.func (.func 38) #[] #[.pointer (some ⟨w.heap.size + 1, 0, none⟩), .pointer (some ⟨w.heap.size, 0, none⟩)]) ∧
      w' = (w.alloc (.cells #[.slice g len cap] 27)).alloc (.cells #[.int .i64 b] 3) := by
  go_enter Tryd.func24, Tryd.ntmps24
  go_wp2_with fail
  go_ret
  exact ⟨rfl, rfl⟩

theorem ups_step {bl : List (Int × Int)} {f : Nat} {b : Int} (h : 0 ≤ b) : ups bl (f + 1) b = b.toNat :: ups bl f (bl.getD b.toNat (0, 0)).1 := by
  rw [ups, if_neg (by omega)]
theorem ups_neg {bl : List (Int × Int)} {f : Nat} {b : Int} (h : b < 0) : ups bl f b = [] := by
  cases f with
  | zero => rfl
  | succ f => rw [ups, if_pos h]

/-- the blocks' cells, as far as their parents go -/
def Pars (w : World) (gb : Nat) (bl : List (Int × Int)) : Prop := ∀ i : Nat, i < bl.length → w.cell? ⟨gb, i * 2, none⟩ = some (.int .i64 (bl.getD i (0, 0)).1)

theorem cell_keepB {Kept : Nat → Prop} {W W' : World} (h : KeepB Kept W W') {a : Addr} (ha : Kept a.block) : W'.cell? a = W.cell? a := by
  unfold World.cell?
  rw [h _ ha]
theorem frozen_keepB {Kept : Nat → Prop} {W W' : World} (h : KeepB Kept W W') {a : Addr} (ha : Kept a.block) : W'.frozen? a = W.frozen? a := by
  unfold World.frozen?
  rw [h _ ha]

def placeLeft (w : World) (p : Nat) : Nat := match w.cell? ⟨p, 0, none⟩ with
  | some (.int _ z) => (z + 1).toNat
  | _ => 0

set_option maxHeartbeats 1000000 in
theorem up_gives (F : Fence) (n : Nat) (hF : F.fn 38) (hro : F.round = none) (hn : 1 ≤ n) (w : World) (p q gb len cap : Nat) (bl : List (Int × Int)) (b : Int) (hlen : len = bl.length) (h40 : bl.length ≤ 40)
    (hpq : p ≠ q) (hpg : p ≠ gb) (hch : Chain bl) (hb : -1 ≤ b) (hbl : b < bl.length) (Kept : Nat → Prop) (kp : Kept p) (kq : Kept q) (kg : Kept gb)
    (hp : Blk w p 3 #[.int .i64 b]) (hq : w.cell? ⟨q, 0, none⟩ = some (.slice (some ⟨gb, 0, none⟩) len cap)) (hg : Pars w gb bl) :
    Gives F n Tryd.prog 38 #[.pointer (some ⟨p, 0, none⟩), .pointer (some ⟨q, 0, none⟩)] (fun x : Nat => #[.int .i64 x]) Kept p (upsFull bl b) w := by
  intro l J W hW hJ hY h0
  replace hp : Blk W p 3 #[.int .i64 b] := (hW p kp).trans hp
  replace hq := (cell_keepB hW kq).trans hq
  replace hg : Pars W gb bl := fun i hi => (cell_keepB hW kg).trans (hg i hi)
  have hY' := Lib.hid hY
  clear hY hW
  refine callsIn_of_wp Tryd.func38 rfl hF ?_ hro
  simp only [Tryd.ntmps38, List.size_toArray, List.length_cons, List.length_nil, Nat.reduceAdd, Nat.reduceSub, Array.replicate_succ, Array.replicate_zero, List.push_toArray, List.append_toArray, List.nil_append, List.cons_append]
  gi_wp2
  gi_loopw [] (fun wr => ∃ (pre : List Nat) (f : Nat) (c : Int), upsFull bl b = pre ++ ups bl f c ∧ c < f ∧ -1 ≤ c ∧ c < bl.length ∧ Blk wr p 3 #[.int .i64 c] ∧
      wr.cell? ⟨q, 0, none⟩ = some (.slice (some ⟨gb, 0, none⟩) len cap) ∧ Pars wr gb bl ∧ J pre wr)
    (fun wr => placeLeft wr p)
  case atStart =>
    exact ⟨[], (b + 1).toNat, b, rfl, by omega, hb, hbl, hp, hq, hg, h0⟩
  case round =>
    obtain ⟨pre, f, c, hx, hcf, hc1, hc2, hpr, hqr, hgr, hJr⟩ := hrel
    have hcell := hpr.cell 0
    have hfz := hpr.frozen 0
    have hlt := hpr.lt
    simp only [List.getElem?_toArray, List.getElem?_cons_zero] at hcell
    by_cases hneg : c < 0
    · have hxs : ups bl f c = [] := ups_neg hneg
      rw [hxs, List.append_nil] at hx
      gi_wp2
      go_end0
      exact ⟨⟨_, rfl⟩, by rw [hx]; exact hJr⟩
    · obtain ⟨k, rfl⟩ := Int.eq_ofNat_of_zero_le (Int.not_lt.1 hneg)
      obtain ⟨f, rfl⟩ : ∃ g, f = g + 1 := ⟨f - 1, by omega⟩
      rw [ups_step (by omega)] at hx
      obtain ⟨fn, tmps, assign, body, hy, hR⟩ := hY'.out pre k wr hJr (by rw [hx]; simp)
      gi_wp2
      refine hR.mono ?_
      rintro e W3 ⟨rfl, hJ3, hk3⟩
      have hp3 : Blk W3 p 3 #[.int .i64 (k : Int)] := (hk3 p kp).trans hpr
      have hq3 := (cell_keepB hk3 kq).trans hqr
      have hg3 : Pars W3 gb bl := fun i hi => (cell_keepB hk3 kg).trans (hgr i hi)
      have hc3 := hp3.cell 0
      have hf3 := hp3.frozen 0
      simp only [List.getElem?_toArray, List.getElem?_cons_zero] at hc3
      have hkl : k < bl.length := by omega
      have hpar := hg3 k hkl
      have hch' := hch k hkl
      have hkl2 : k < len := by omega
      have hbl' : placeLeft wr p = k + 1 := by
        unfold placeLeft
        rw [hcell]
        simp only
        omega
      simp only [Int.toNat_natCast] at hx
      generalize (bl.getD k (0, 0)).1 = z at hpar hch' hx
      clear hR hJr hY' hp hq hg h0 hqr hgr hcell hfz hpr
      gi_wp2
      have hB4 : Blk (W3.setCell ⟨p, 0, none⟩ (.int .i64 z)) p 3 #[.int .i64 z] := hp3.set_ 0 _
      go_roundw
      case rel =>
        refine ⟨pre ++ [k], f, z, by rw [hx]; simp, by omega, hch'.1, by omega, hB4, ?_, ?_, hJ _ _ _ hJ3⟩
        · refine (World.cell?_setCell_other W3 ⟨p, 0, none⟩ ⟨q, 0, none⟩ _ ?_).trans hq3
          simp [hpq]
        · intro i hi
          refine (World.cell?_setCell_other W3 ⟨p, 0, none⟩ ⟨gb, i * 2, none⟩ _ ?_).trans (hg3 i hi)
          simp [hpg]
      case measure =>
        rw [hbl']
        unfold placeLeft
        rw [hB4.cell 0]
        simp only [List.getElem?_toArray, List.getElem?_cons_zero]
        omega

end Go.Proofs.YtkcekjpohpenkaaDoor
