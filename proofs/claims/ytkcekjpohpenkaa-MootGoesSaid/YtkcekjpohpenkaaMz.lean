import Derived.Test.YtkcekjpohpenkaaMy
set_option linter.unusedVariables false
set_option linter.unusedSimpArgs false
namespace Go.Proofs.Ytkcekjpohpenkaa
open Go.RowKit Mo

theorem info_int : (Try.prog.info? 3).map (fun i => (i.zero, i.size, i.bytes)) = some (some (.int .i64 0), 1, 8) := by kernel_rfl

theorem ups_fuel {bl : List (Int × Int)} (hch : Chain bl) : ∀ (f g : Nat) (b : Int), b < bl.length → b < f → b < g → ups bl f b = ups bl g b
  | 0, g, b, _, hf, _ => by
    rw [ups_neg (by omega), ups_neg (by omega)]
  | f + 1, 0, b, _, _, hg => by
    rw [ups_neg (by omega), ups_neg (by omega)]
  | f + 1, g + 1, b, hb, hf, hg => by
    by_cases h0 : b < 0
    · rw [ups_neg h0, ups_neg h0]
    · rw [ups_step (by omega), ups_step (by omega)]
      have := hch b.toNat (by omega)
      rw [ups_fuel hch f g _ (by omega) (by omega) (by omega)]

/-- the path to a block, from the first one -/
def path (bl : List (Int × Int)) (b : Int) : List Nat := (upsFull bl b).reverse

theorem upsFull_neg {bl : List (Int × Int)} {b : Int} (h : b < 0) : upsFull bl b = [] := ups_neg h
theorem upsFull_step {bl : List (Int × Int)} (hch : Chain bl) {b : Nat} (hb : b < bl.length) : upsFull bl b = b :: upsFull bl (bl.getD b (0, 0)).1 := by
  have h := hch b hb
  unfold upsFull
  rw [show ((b : Int) + 1).toNat = b + 1 by omega, ups_step (by omega), Int.toNat_natCast, ups_fuel hch b (((bl.getD b (0, 0)).1 + 1).toNat) _ (by omega) (by omega) (by omega)]
theorem upsFull_length {bl : List (Int × Int)} (hch : Chain bl) (b : Nat) (hb : b < bl.length) : (upsFull bl b).length ≤ b + 1 := by
  induction b using Nat.strongRecOn with
  | _ b ih =>
    rw [upsFull_step hch hb]
    have h := hch b hb
    by_cases hn : (bl.getD b (0, 0)).1 < 0
    · rw [upsFull_neg hn]; simp
    · obtain ⟨p, hp⟩ := Int.eq_ofNat_of_zero_le (Int.not_lt.1 hn)
      rw [hp] at h ⊢
      have := ih p (by omega) (by omega)
      simp only [List.length_cons]
      omega
theorem path_step {bl : List (Int × Int)} (hch : Chain bl) {b : Nat} (hb : b < bl.length) : path bl b = path bl (bl.getD b (0, 0)).1 ++ [b] := by
  unfold path
  rw [upsFull_step hch hb, List.reverse_cons]
theorem path_length {bl : List (Int × Int)} (hch : Chain bl) (b : Nat) (hb : b < bl.length) : (path bl b).length ≤ b + 1 := by
  unfold path
  rw [List.length_reverse]
  exact upsFull_length hch b hb

section
variable {gb cap : Nat} {bl : List (Int × Int)}
def PathAt (w : World) (bl : List (Int × Int)) (b : Int) (e : Ending) (w' : World) : Prop :=
  ∃ g c, e = .returned (.slice (some ⟨g, 0, none⟩) (path bl b).length c) ∧ Own w' w.heap.size 3 1 g c (path bl b).length (intL (path bl b)) ∧ Below w.heap.size w w'

theorem path_next {w w1 w3 : World} {bl : List (Int × Int)} (hch : Chain bl) {b p : Nat} (hb : b < bl.length) (hp : (bl.getD b (0, 0)).1 = p) {g c gg c3 : Nat}
    (h1 : Own w1 w.heap.size 3 1 g c (path bl p).length (intL (path bl p))) (hB : Below w.heap.size w w1) {ob : Obj} (hg : (w1.alloc ob).grownBy w3 (some g))
    (hown : w3.ownsRow w.heap.size 3 1 (.slice (some ⟨gg, 0, none⟩) ((path bl p).length + 1) c3) ((path bl p).length + 1) (intL (path bl p) ++ [.int .i64 b])) :
    PathAt w bl b (.returned (.slice (some ⟨gg, 0, none⟩) ((path bl p).length + 1) c3)) w3 := by
  have e : path bl b = path bl p ++ [b] := by rw [path_step hch hb, hp]
  have el : (path bl b).length = (path bl p).length + 1 := by rw [e]; simp
  refine ⟨gg, c3, by rw [el], ?_, ?_⟩
  · rw [el, e]
    simpa [intL] using hown
  · have hb1 := hB.alloc hB.size ob
    exact hb1.grown hg hb1.size fun k hk => by cases hk; exact h1.ge

set_option maxHeartbeats 1000000 in
theorem path_calls (hc : Chn bl) : ∀ (b : Nat), b < bl.length → ∀ w : World, BRow w gb bl →
    Calls Try.prog 12 #[.slice (some ⟨gb, 0, none⟩) bl.length cap, .int .i64 b] w (PathAt w bl b) := by
  intro b
  induction b using Nat.strongRecOn with
  | _ b ih =>
    intro hb w hr
    have hch := hc.chain
    have l40 := hc.len40
    by_cases h0 : b = 0
    · subst h0
      have e : path bl ((0 : Nat) : Int) = [0] := by
        rw [path_step hch hb]
        have : (bl.getD 0 (0, 0)).1 = -1 := by rw [hc.first]
        rw [this]
        rfl
      have HE := Lib.hid e
      clear ih hr e
      go_enter Try.func12, Try.ntmps12
      go_wp2_with fail
      go_ret
      refine ⟨w.heap.size, 1, by rw [HE.out]; rfl, ?_, (Below.refl _ w).alloc (Nat.le_refl _) _⟩
      rw [HE.out]
      exact ⟨rfl, .inr ⟨_, 1, #[.int .i64 0], rfl, Nat.le_refl _, heap_alloc_new w _, by simp, by unfold maxLen; omega, rfl, rfl⟩⟩
    · obtain ⟨p1, p2, p3⟩ := hc.par b (by omega) hb
      obtain ⟨p, hp⟩ := Int.eq_ofNat_of_zero_le p1
      have hpar := hr.par b hb
      rw [hp] at hpar p2
      have hpb : p < b := by omega
      have hI := Lib.hid (ih p hpb (by omega) w hr)
      have hpl := path_length hch p (by omega)
      have HC := Lib.hid (And.intro hch hp)
      obtain ⟨i0, hi0, hz0, hz1, hz2⟩ := info_parts info_int
      have HI := Lib.hid (And.intro hi0 (And.intro hz0 (And.intro hz1 hz2)))
      have hb0 : ((b : Int) == 0) = false := by simpa using h0
      have hn : (path bl (p : Int)).length ≤ 40 := by omega
      clear ih hr hi0 hz0 hz1 hz2 hch hp p1 p3 hpl
      go_enter Try.func12, Try.ntmps12
      go_wp2_with (first
        | (go_at_call 12
           refine (hI.out).mono ?_
           rintro e w1 ⟨g1, c1, rfl, hown1, hb1⟩
           have hO1 := Lib.hid hown1
           have hB1 := Lib.hid hb1
           have hs1 := hb1.size
           clear hown1 hb1)
        | (at_builtin
           refine wpList_append_lies _ rfl (.tmp 14) (.tmp 16) 37 rfl w.heap.size 3 i0 (.int .i64 0) 1 8 Try.underlying37 HI.out.1 HI.out.2.1 HI.out.2.2.1 HI.out.2.2.2 rfl (by omega) (.slice (some ⟨g1, 0, none⟩) (path bl (p : Int)).length c1) (path bl (p : Int)).length (intL (path bl (p : Int))) (by rfl) (hO1.out.alloc _)
             ⟨w1.heap.size, 0, none⟩ 1 1 [.int .i64 b] (by rfl) (by rfl) (World.news_of_block (cs := #[.int .i64 b]) (t := 3) (fr := (0, 0)) (heap_alloc_new w1 _)) (by simp [Value.oneCell']) (by omega) (by unfold maxLen; omega) (by omega) (by simp; omega) (w1.heap.size + 1) (by simp) ?_
           intro gg cap3 w3 hown3 hgrow3 hat3 hlt3
           have hfin := Lib.hid (path_next HC.out.1 hb HC.out.2 hO1.out hB1.out hgrow3 hown3)
           clear hown3 hgrow3 hat3))
      go_ret
      exact hfin.out
end
end Go.Proofs.Ytkcekjpohpenkaa
