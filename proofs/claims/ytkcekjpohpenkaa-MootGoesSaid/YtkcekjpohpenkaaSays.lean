import Derived.Test.YtkcekjpohpenkaaNe
import Derived.WalkKit
import Derived.ProofKit
import Derived.OpenShut
import Derived.Deep.Slices
import Derived.Deep.Fields
import Derived.ChangeSame
import Derived.ChangeOld
import Derived.Below
/- A script that a law is handed, opened. -/
set_option linter.unusedVariables false
set_option linter.unusedSimpArgs false
namespace Go.Proofs.Ytkcekjpohpenkaa
open Go.ChangeShapes Go.WideShapes Go.ChangeAt Go.RowKit Go.Deep Mo

/-- what element i of a script holds -/
def SayAt (w : World) (a : Addr) (i : Nat) (x : Say) : Prop :=
  w.cell? (a.add (i * 5)) = some (.int .i64 x.kind) ∧ w.cell? (a.add (i * 5 + 1)) = some (.int .i64 x.who) ∧ w.cell? (a.add (i * 5 + 2)) = some (.int .i64 x.block) ∧
    w.cell? (a.add (i * 5 + 3)) = some (.int .i64 x.round) ∧ w.cell? (a.add (i * 5 + 4)) = some (.int .i64 x.high)

theorem says_list {w : World} {a : Addr} {len : Nat} (h : ∀ i, i < len → ∃ x, SayAt w a i x) : ∀ m, m ≤ len → ∃ l : List Say, l.length = m ∧ ∀ i x, l[i]? = some x → SayAt w a i x
  | 0, _ => ⟨[], rfl, by simp⟩
  | m + 1, hm => by
    obtain ⟨l, hl, hx⟩ := says_list h m (by omega)
    obtain ⟨x, hxx⟩ := h m (by omega)
    refine ⟨l ++ [x], by simp [hl], fun i y hy => ?_⟩
    by_cases hi : i < l.length
    · rw [List.getElem?_append_left hi] at hy
      exact hx i y hy
    · have : i < (l ++ [x]).length := (List.getElem?_eq_some_iff.1 hy).1
      obtain rfl : i = l.length := by simp at this; omega
      simp at hy
      subst hy
      rw [hl]
      exact hxx

theorem say_fields : (match Try.prog.underlying 42 with | some (.struct fs) => fs.map (fun f => (f.type, f.offset)) | _ => #[]) = #[(3, 0), (3, 1), (3, 2), (3, 3), (3, 4)] := by kernel_rfl
theorem say_struct : ∃ fs : Array Field, Try.prog.underlying 42 = some (.struct fs) ∧ ∀ j, j < 5 → ∃ f : Field, fs[j]? = some f ∧ f.type = 3 ∧ f.offset = j := by
  have h := say_fields
  split at h
  · rename_i fs hfs
    refine ⟨fs, hfs, fun j hj => ?_⟩
    have h2 : (fs.map (fun f : Field => (f.type, f.offset)))[j]? = some (3, j) := by
      rw [h]
      have : j = 0 ∨ j = 1 ∨ j = 2 ∨ j = 3 ∨ j = 4 := by omega
      rcases this with rfl | rfl | rfl | rfl | rfl <;> rfl
    rw [Array.getElem?_map] at h2
    obtain ⟨f, hf, he⟩ := Option.map_eq_some_iff.1 h2
    simp only [Prod.mk.injEq] at he
    exact ⟨f, hf, he.1, he.2⟩
  · simp at h

theorem say_cells : Try.prog.cellsOf 42 = 5 := by kernel_rfl
theorem say_cell1 : Try.prog.cellsOf 3 = 1 := by kernel_rfl

section
variable {H : Type} {enc : TypeId × Value → H} {w : World} {held : Bool}
/-- one element of a script -/
theorem say_at {spare : Nat → Bool} {n i : Nat} {a : Addr} {cs : List Value} {x : DataW H × List MemPlace} (hc : w.cells? 0 (a.add (i * 5)) 5 = some cs) (h : DataW.trod enc Try.prog w 0 spare held n 42 cs = some x) : ∃ y, SayAt w a i y := by
  obtain ⟨fs, hfs, hf⟩ := say_struct
  obtain ⟨xs, m, _, _, hl, hxl, hx⟩ := DataW.trod_struct hfs h
  obtain ⟨_, hcl, hat⟩ := World.cells?_some hc
  rw [say_cells] at hl
  have key : ∀ j, j < 5 → ∃ k : Int, w.cell? (a.add (i * 5 + j)) = some (.int .i64 k) := by
    intro j hj
    obtain ⟨f, hfj, ht, ho⟩ := hf j hj
    have h1 := hx j f hfj
    rw [ht, ho, say_cell1] at h1
    have hjs : j < fs.size := (Array.getElem?_eq_some_iff.1 hfj).1
    have hxj : xs[j]? = some (xs[j]'(by omega)) := List.getElem?_eq_getElem (by omega)
    rw [hxj] at h1
    obtain ⟨k, hk, _⟩ := DataW.trod_int Try.underlying3 h1
    refine ⟨k, ?_⟩
    rw [List.drop_eq_getElem_cons (by omega)] at hk
    simp only [List.take_succ_cons, List.take_zero, List.cons.injEq, and_true] at hk
    rw [← addr_twice, hat j hj, List.getElem?_eq_getElem (by omega), hk]
  obtain ⟨k0, h0⟩ := key 0 (by omega)
  obtain ⟨k1, h1⟩ := key 1 (by omega)
  obtain ⟨k2, h2⟩ := key 2 (by omega)
  obtain ⟨k3, h3⟩ := key 3 (by omega)
  obtain ⟨k4, h4⟩ := key 4 (by omega)
  exact ⟨⟨k0, k1, k2, k3, k4⟩, h0, h1, h2, h3, h4⟩

/-- a script that came in -/
theorem says_row {a : Option Addr} {len cap : Nat} {d : DataW H} {p : List MemPlace} (h : DataW.Trod enc Try.prog w 0 (fun _ => true) true 23 (.slice a len cap) d p) (hlt : ∀ x ∈ p, x.block < w.heap.size) :
    ∃ l : List Say, l.length = len ∧ SRow w a l := by
  obtain ⟨fuel, hf⟩ := h
  rcases open_slice Try.underlying23 hf with ⟨hcs, _⟩ | ⟨b, len', cap', m, n, D, Pl, hcs, hb, hl, hm, hmm, hx, hi⟩
  · simp [Value.cells] at hcs
    obtain ⟨rfl, rfl, rfl⟩ := hcs
    exact ⟨[], rfl, ⟨fun i hi => absurd hi (by simp)⟩⟩
  · simp [Value.cells] at hcs
    obtain ⟨rfl, rfl, rfl⟩ := hcs
    simp only [if_true] at hmm
    subst hmm
    rw [say_cells] at hi
    have hs : ∀ i, i < len → ∃ x, SayAt w b i x := by
      intro i hil
      obtain ⟨cs, hc, ht⟩ := hi i (by omega)
      exact say_at hc ht
    obtain ⟨l, hll, hla⟩ := says_list hs len (Nat.le_refl _)
    refine ⟨l, hll, ⟨fun i hil => ⟨b, rfl, ?_, fun x hx => hla i x hx⟩⟩⟩
    have := (hla i _ (List.getElem?_eq_getElem hil)).1
    have h2 := World.block_lt_of_cell? w _ this
    rwa [addr_block] at h2
end
end Go.Proofs.Ytkcekjpohpenkaa
