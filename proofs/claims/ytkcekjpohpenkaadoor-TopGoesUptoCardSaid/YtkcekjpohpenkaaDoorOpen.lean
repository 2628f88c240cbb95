import Derived.Test.YtkcekjpohpenkaaDoorRows
import Derived.Test.YtkcekjpohpenkaaDoorBall
import Derived.WalkKit
import Derived.ProofKit
import Derived.OpenShut
import Derived.Deep.Slices
import Derived.Deep.Fields
import Derived.ChangeSame
import Derived.ChangeOld
import Derived.Below
/- Scripts, money and pays that a law is handed, opened. -/
set_option linter.unusedVariables false
set_option linter.unusedSimpArgs false
set_option maxRecDepth 100000
namespace Go.Proofs.YtkcekjpohpenkaaDoor
open Go.ChangeShapes Go.WideShapes Go.ChangeAt Go.RowKit Go.Deep Mo

/-- what element i of a script holds -/
def SayAt (w : World) (a : Addr) (i : Nat) (x : Say) : Prop :=
  w.cell? (a.add (i * 5)) = some (.int .i64 x.kind) ∧ w.cell? (a.add (i * 5 + 1)) = some (.int .i64 x.who) ∧ w.cell? (a.add (i * 5 + 2)) = some (.int .i64 x.block) ∧
    w.cell? (a.add (i * 5 + 3)) = some (.int .i64 x.round) ∧ w.cell? (a.add (i * 5 + 4)) = some (.int .i64 x.high)

theorem says_list {w : World} {a : Addr} {len : Nat} (h : ∀ i, i < len → ∃ x, SayAt w a i x) : ∀ m, m ≤ len → ∃ l : List Say, l.length = m ∧ ∀ i x, l[i]? = some x → SayAt w a i x
  | 0, _ => ⟨[], rfl, by simp⟩
  | m + 1, hm => by
    obtain ⟨l, hl, hx⟩ := says_list h m (by omega)
    obtain ⟨x, hxx⟩ := h m (by omega)
    refine ⟨l ++ [x], by simp [hl], fun i y hy => ?_⟩
    by_cases hi : i < l.length
    · rw [List.getElem?_append_left hi] at hy
      exact hx i y hy
    · have : i < (l ++ [x]).length := (List.getElem?_eq_some_iff.1 hy).1
      obtain rfl : i = l.length := by simp at this; omega
      simp at hy
      subst hy
      rw [hl]
      exact hxx

theorem say_fields : (match Tryd.prog.underlying 47 with | some (.struct fs) => fs.map (fun f => (f.type, f.offset)) | _ => #[]) = #[(3, 0), (3, 1), (3, 2), (3, 3), (3, 4)] := by kernel_rfl
theorem say_struct : ∃ fs : Array Field, Tryd.prog.underlying 47 = some (.struct fs) ∧ ∀ j, j < 5 → ∃ f : Field, fs[j]? = some f ∧ f.type = 3 ∧ f.offset = j := by
  have h := say_fields
  split at h
  · rename_i fs hfs
    refine ⟨fs, hfs, fun j hj => ?_⟩
    have h2 : (fs.map (fun f : Field => (f.type, f.offset)))[j]? = some (3, j) := by
      rw [h]
      have : j = 0 ∨ j = 1 ∨ j = 2 ∨ j = 3 ∨ j = 4 := by omega
      rcases this with rfl | rfl | rfl | rfl | rfl <;> rfl
    rw [Array.getElem?_map] at h2
    obtain ⟨f, hf, he⟩ := Option.map_eq_some_iff.1 h2
    simp only [Prod.mk.injEq] at he
    exact ⟨f, hf, he.1, he.2⟩
  · simp at h

theorem say_cells : Tryd.prog.cellsOf 47 = 5 := by kernel_rfl
theorem say_cell1 : Tryd.prog.cellsOf 3 = 1 := by kernel_rfl

section
variable {H : Type} {enc : TypeId × Value → H} {w : World} {held : Bool}
/-- one element of a script -/
theorem say_at {spare : Nat → Bool} {n i : Nat} {a : Addr} {cs : List Value} {x : DataW H × List MemPlace} (hc : w.cells? 0 (a.add (i * 5)) 5 = some cs) (h : DataW.trod enc Tryd.prog w 0 spare held n 47 cs = some x) : ∃ y, SayAt w a i y := by
  obtain ⟨fs, hfs, hf⟩ := say_struct
  obtain ⟨xs, m, _, _, hl, hxl, hx⟩ := DataW.trod_struct hfs h
  obtain ⟨_, hcl, hat⟩ := World.cells?_some hc
  rw [say_cells] at hl
  have key : ∀ j, j < 5 → ∃ k : Int, w.cell? (a.add (i * 5 + j)) = some (.int .i64 k) := by
    intro j hj
    obtain ⟨f, hfj, ht, ho⟩ := hf j hj
    have h1 := hx j f hfj
    rw [ht, ho, say_cell1] at h1
    have hjs : j < fs.size := (Array.getElem?_eq_some_iff.1 hfj).1
    have hxj : xs[j]? = some (xs[j]'(by omega)) := List.getElem?_eq_getElem (by omega)
    rw [hxj] at h1
    obtain ⟨k, hk, _⟩ := DataW.trod_int Tryd.underlying3 h1
    refine ⟨k, ?_⟩
    rw [List.drop_eq_getElem_cons (by omega)] at hk
    simp only [List.take_succ_cons, List.take_zero, List.cons.injEq, and_true] at hk
    rw [← addr_twice, hat j hj, List.getElem?_eq_getElem (by omega), hk]
  obtain ⟨k0, h0⟩ := key 0 (by omega)
  obtain ⟨k1, h1⟩ := key 1 (by omega)
  obtain ⟨k2, h2⟩ := key 2 (by omega)
  obtain ⟨k3, h3⟩ := key 3 (by omega)
  obtain ⟨k4, h4⟩ := key 4 (by omega)
  exact ⟨⟨k0, k1, k2, k3, k4⟩, h0, h1, h2, h3, h4⟩

/-- a script that came in -/
theorem says_row {a : Option Addr} {len cap : Nat} {d : DataW H} {p : List MemPlace} (h : DataW.Trod enc Tryd.prog w 0 (fun _ => true) true 23 (.slice a len cap) d p) (hlt : ∀ x ∈ p, x.block < w.heap.size) :
    ∃ l : List Say, l.length = len ∧ SRow w a l := by
  obtain ⟨fuel, hf⟩ := h
  rcases open_slice Tryd.underlying23 hf with ⟨hcs, _⟩ | ⟨b, len', cap', m, n, D, Pl, hcs, hb, hl, hm, hmm, hx, hi⟩
  · simp [Value.cells] at hcs
    obtain ⟨rfl, rfl, rfl⟩ := hcs
    exact ⟨[], rfl, ⟨fun i hi => absurd hi (by simp)⟩⟩
  · simp [Value.cells] at hcs
    obtain ⟨rfl, rfl, rfl⟩ := hcs
    simp only [if_true] at hmm
    subst hmm
    rw [say_cells] at hi
    have hs : ∀ i, i < len → ∃ x, SayAt w b i x := by
      intro i hil
      obtain ⟨cs, hc, ht⟩ := hi i (by omega)
      exact say_at hc ht
    obtain ⟨l, hll, hla⟩ := says_list hs len (Nat.le_refl _)
    refine ⟨l, hll, ⟨fun i hil => ⟨b, rfl, ?_, fun x hx => hla i x hx⟩⟩⟩
    have := (hla i _ (List.getElem?_eq_getElem hil)).1
    have h2 := World.block_lt_of_cell? w _ this
    rwa [addr_block] at h2
end

/-! ### money -/
theorem money_list {w : World} {a : Addr} {len : Nat} (h : ∀ i, i < len → ∃ x : Int, w.cell? (a.add i) = some (.int .i64 x)) : ∀ m, m ≤ len → ∃ l : List Int, l.length = m ∧ ∀ i x, l[i]? = some x → w.cell? (a.add i) = some (.int .i64 x)
  | 0, _ => ⟨[], rfl, by simp⟩
  | m + 1, hm => by
    obtain ⟨l, hl, hx⟩ := money_list h m (by omega)
    obtain ⟨x, hxx⟩ := h m (by omega)
    refine ⟨l ++ [x], by simp [hl], fun i y hy => ?_⟩
    by_cases hi : i < l.length
    · rw [List.getElem?_append_left hi] at hy
      exact hx i y hy
    · have : i < (l ++ [x]).length := (List.getElem?_eq_some_iff.1 hy).1
      obtain rfl : i = l.length := by simp at this; omega
      simp at hy
      subst hy
      rw [hl]
      exact hxx
theorem i64_cell1 : Tryd.prog.cellsOf 2 = 1 := by kernel_rfl

section
variable {H : Type} {enc : TypeId × Value → H} {w : World} {held : Bool}
theorem money_row {a : Option Addr} {len cap : Nat} {d : DataW H} {p : List MemPlace} (h : DataW.Trod enc Tryd.prog w 0 (fun _ => true) true 24 (.slice a len cap) d p) :
    ∃ l : List Int, l.length = len ∧ MRow w a l := by
  obtain ⟨fuel, hf⟩ := h
  rcases open_slice Tryd.underlying24 hf with ⟨hcs, _⟩ | ⟨b, len', cap', m, n, D, Pl, hcs, hb, hl, hm, hmm, hx, hi⟩
  · simp [Value.cells] at hcs
    obtain ⟨rfl, rfl, rfl⟩ := hcs
    exact ⟨[], rfl, ⟨fun i hi => absurd hi (by simp)⟩⟩
  · simp [Value.cells] at hcs
    obtain ⟨rfl, rfl, rfl⟩ := hcs
    simp only [if_true] at hmm
    subst hmm
    rw [i64_cell1] at hi
    have hs : ∀ i, i < len → ∃ x : Int, w.cell? (b.add i) = some (.int .i64 x) := by
      intro i hil
      obtain ⟨cs, hc, ht⟩ := hi i (by omega)
      obtain ⟨_, hcl, hat⟩ := World.cells?_some hc
      obtain ⟨k, hk, _⟩ := DataW.trod_int Tryd.underlying2 ht
      subst hk
      have := hat 0 (by omega)
      rw [addr_twice] at this
      exact ⟨k, by simpa using this⟩
    obtain ⟨l, hll, hla⟩ := money_list hs len (Nat.le_refl _)
    refine ⟨l, hll, ⟨fun i hil => ⟨b, rfl, ?_, fun x hx => hla i x hx⟩⟩⟩
    have := hla i _ (List.getElem?_eq_getElem hil)
    have h2 := World.block_lt_of_cell? w _ this
    rwa [addr_block] at h2
end

/-! ### pays -/
def PayCell (w : World) (a : Addr) (i : Nat) (p : Lg.Pay) : Prop :=
  w.cell? (a.add (i * 4)) = some (.int .i64 p.src) ∧ w.cell? (a.add (i * 4 + 1)) = some (.int .i64 p.dst) ∧ w.cell? (a.add (i * 4 + 2)) = some (.int .i64 p.ser) ∧ w.cell? (a.add (i * 4 + 3)) = some (.int .i64 p.n)
theorem pay_list {w : World} {a : Addr} {len : Nat} (h : ∀ i, i < len → ∃ x, PayCell w a i x) : ∀ m, m ≤ len → ∃ l : List Lg.Pay, l.length = m ∧ ∀ i x, l[i]? = some x → PayCell w a i x
  | 0, _ => ⟨[], rfl, by simp⟩
  | m + 1, hm => by
    obtain ⟨l, hl, hx⟩ := pay_list h m (by omega)
    obtain ⟨x, hxx⟩ := h m (by omega)
    refine ⟨l ++ [x], by simp [hl], fun i y hy => ?_⟩
    by_cases hi : i < l.length
    · rw [List.getElem?_append_left hi] at hy
      exact hx i y hy
    · have : i < (l ++ [x]).length := (List.getElem?_eq_some_iff.1 hy).1
      obtain rfl : i = l.length := by simp at this; omega
      simp at hy
      subst hy
      rw [hl]
      exact hxx
theorem pay_fields : (match Tryd.prog.underlying 41 with | some (.struct fs) => fs.map (fun f => (f.type, f.offset)) | _ => #[]) = #[(3, 0), (3, 1), (3, 2), (2, 3)] := by kernel_rfl
theorem pay_struct : ∃ fs : Array Field, Tryd.prog.underlying 41 = some (.struct fs) ∧ ∀ j, j < 4 → ∃ f : Field, fs[j]? = some f ∧ f.type = (if j < 3 then 3 else 2) ∧ f.offset = j := by
  have h := pay_fields
  split at h
  · rename_i fs hfs
    refine ⟨fs, hfs, fun j hj => ?_⟩
    have h2 : (fs.map (fun f : Field => (f.type, f.offset)))[j]? = some ((if j < 3 then 3 else 2), j) := by
      rw [h]
      have : j = 0 ∨ j = 1 ∨ j = 2 ∨ j = 3 := by omega
      rcases this with rfl | rfl | rfl | rfl <;> rfl
    rw [Array.getElem?_map] at h2
    obtain ⟨f, hf, he⟩ := Option.map_eq_some_iff.1 h2
    simp only [Prod.mk.injEq] at he
    exact ⟨f, hf, he.1, he.2⟩
  · simp at h
theorem pay_cells : Tryd.prog.cellsOf 41 = 4 := by kernel_rfl
theorem pays_cell1 : Tryd.prog.cellsOf 31 = 1 := by kernel_rfl

section
variable {H : Type} {enc : TypeId × Value → H} {w : World} {held : Bool}
theorem pay_at {spare : Nat → Bool} {n i : Nat} {a : Addr} {cs : List Value} {x : DataW H × List MemPlace} (hc : w.cells? 0 (a.add (i * 4)) 4 = some cs) (h : DataW.trod enc Tryd.prog w 0 spare held n 41 cs = some x) : ∃ y, PayCell w a i y := by
  obtain ⟨fs, hfs, hf⟩ := pay_struct
  obtain ⟨xs, m, _, _, hl, hxl, hx⟩ := DataW.trod_struct hfs h
  obtain ⟨_, hcl, hat⟩ := World.cells?_some hc
  rw [pay_cells] at hl
  have key : ∀ j, j < 4 → ∃ k : Int, w.cell? (a.add (i * 4 + j)) = some (.int .i64 k) := by
    intro j hj
    obtain ⟨f, hfj, ht, ho⟩ := hf j hj
    have h1 := hx j f hfj
    have hjs : j < fs.size := (Array.getElem?_eq_some_iff.1 hfj).1
    have hxj : xs[j]? = some (xs[j]'(by omega)) := List.getElem?_eq_getElem (by omega)
    rw [hxj, ht, ho] at h1
    have hk : ∃ k : Int, (cs.drop j).take 1 = [Value.int .i64 k] := by
      by_cases h3 : j < 3
      · rw [if_pos h3, say_cell1] at h1
        obtain ⟨k, hk, _⟩ := DataW.trod_int Tryd.underlying3 h1
        exact ⟨k, hk⟩
      · rw [if_neg h3, i64_cell1] at h1
        obtain ⟨k, hk, _⟩ := DataW.trod_int Tryd.underlying2 h1
        exact ⟨k, hk⟩
    obtain ⟨k, hk⟩ := hk
    refine ⟨k, ?_⟩
    rw [List.drop_eq_getElem_cons (by omega)] at hk
    simp only [List.take_succ_cons, List.take_zero, List.cons.injEq, and_true] at hk
    rw [← addr_twice, hat j hj, List.getElem?_eq_getElem (by omega), hk]
  obtain ⟨k0, h0⟩ := key 0 (by omega)
  obtain ⟨k1, h1⟩ := key 1 (by omega)
  obtain ⟨k2, h2⟩ := key 2 (by omega)
  obtain ⟨k3, h3⟩ := key 3 (by omega)
  exact ⟨⟨k0, k1, k2, k3⟩, h0, h1, h2, h3⟩

theorem bulk_length : ∀ (l : List (DataW H)), l.length ≤ Rows.uptoBulkAll l
  | [] => by simp [Rows.uptoBulkAll]
  | x :: r => by
    have h1 := bulk_length r
    have h2 : 1 ≤ Rows.uptoBulk x := by
      cases x with
      | lit l => cases l <;> simp [Rows.uptoBulk]
      | _ => simp [Rows.uptoBulk]
    simp only [Rows.uptoBulkAll, List.length_cons]
    omega
theorem bulk_part {d : DataW H} : ∀ {l : List (DataW H)}, d ∈ l → Rows.uptoBulk d ≤ Rows.uptoBulkAll l
  | [], h => by cases h
  | x :: r, h => by
    simp only [Rows.uptoBulkAll]
    rcases List.mem_cons.1 h with e | e
    · subst e; omega
    · have := bulk_part e; omega

/-- pays of one block -/
theorem pays_read {spare : Nat → Bool} {n : Nat} {cs : List Value} {x : DataW H × List MemPlace} (hsp : ∀ k, spare k = true) (h : DataW.trod enc Tryd.prog w 0 spare held n 31 cs = some x) :
    ∃ (A : Option Addr) (ps : List Lg.Pay) (c : Nat), cs = [.slice A ps.length c] ∧ PRow w A ps ∧ ps.length ≤ Rows.uptoBulk x.1 := by
  rcases open_slice Tryd.underlying31 h with ⟨hcs, _⟩ | ⟨b, len, cap, m, n', D, Pl, hcs, hb, hl, hm, hmm, hx, hi⟩
  · exact ⟨none, [], 0, hcs, ⟨fun i hi => absurd hi (by simp)⟩, by simp⟩
  · rw [hsp] at hmm
    simp only [if_true] at hmm
    subst hmm
    rw [pay_cells] at hi
    have hs : ∀ i, i < len → ∃ p, PayCell w b i p := by
      intro i hil
      obtain ⟨cs', hc, ht⟩ := hi i (by omega)
      exact pay_at hc ht
    obtain ⟨l, hll, hla⟩ := pay_list hs len (Nat.le_refl _)
    subst hll
    refine ⟨some b, l, _, hcs, ⟨fun i hil => ⟨b, rfl, ?_, fun p hp => hla i p hp⟩⟩, ?_⟩
    · have := (hla i _ (List.getElem?_eq_getElem hil)).1
      have h2 := World.block_lt_of_cell? w _ this
      rwa [addr_block] at h2
    · rw [hx]
      simp only [Rows.uptoBulk]
      have := bulk_length ((List.range l.length).map D)
      simp at this
      omega

theorem pps_list {w : World} {b : Addr} {len : Nat} {B : Nat} (h : ∀ i, i < len → ∃ (A : Option Addr) (ps : List Lg.Pay) (c : Nat), w.cell? (b.add i) = some (.slice A ps.length c) ∧ PRow w A ps ∧ ps.length ≤ B) :
    ∀ m, m ≤ len → ∃ l : List (List Lg.Pay), l.length = m ∧ ∀ i ps, l[i]? = some ps → ∃ A c, w.cell? (b.add i) = some (.slice A ps.length c) ∧ PRow w A ps ∧ ps.length ≤ B
  | 0, _ => ⟨[], rfl, by simp⟩
  | m + 1, hm => by
    obtain ⟨l, hl, hx⟩ := pps_list h m (by omega)
    obtain ⟨A, ps, c, h1, h2, h3⟩ := h m (by omega)
    refine ⟨l ++ [ps], by simp [hl], fun i y hy => ?_⟩
    by_cases hi : i < l.length
    · rw [List.getElem?_append_left hi] at hy
      exact hx i y hy
    · have : i < (l ++ [ps]).length := (List.getElem?_eq_some_iff.1 hy).1
      obtain rfl : i = l.length := by simp at this; omega
      simp at hy
      subst hy
      rw [hl]
      exact ⟨A, c, h1, h2, h3⟩

/-- pays of blocks that came in, each of a bulk that is bounded -/
theorem pays2_row {a : Option Addr} {len cap : Nat} {d : DataW H} {p : List MemPlace} (h : DataW.Trod enc Tryd.prog w 0 (fun _ => true) true 25 (.slice a len cap) d p) (hbulk : Rows.uptoBulk d ≤ 1048576) :
    ∃ pp : List (List Lg.Pay), pp.length = len ∧ PPRow w a pp := by
  obtain ⟨fuel, hf⟩ := h
  rcases open_slice Tryd.underlying25 hf with ⟨hcs, _⟩ | ⟨b, len', cap', m, n, D, Pl, hcs, hb, hl, hm, hmm, hx, hi⟩
  · simp [Value.cells] at hcs
    obtain ⟨rfl, rfl, rfl⟩ := hcs
    exact ⟨[], rfl, ⟨fun i hi => absurd hi (by simp), fun i => by simp⟩⟩
  · simp [Value.cells] at hcs
    obtain ⟨rfl, rfl, rfl⟩ := hcs
    simp only [if_true] at hmm
    subst hmm
    rw [pays_cell1] at hi
    have hd := congrArg Prod.fst hx
    simp only at hd
    have hs : ∀ i, i < len → ∃ (A : Option Addr) (ps : List Lg.Pay) (c : Nat), w.cell? (b.add i) = some (.slice A ps.length c) ∧ PRow w A ps ∧ ps.length ≤ 1048576 := by
      intro i hil
      obtain ⟨cs, hc, ht⟩ := hi i (by omega)
      obtain ⟨_, hcl, hat⟩ := World.cells?_some hc
      obtain ⟨A, ps, c, rfl, h1, h2⟩ := pays_read (fun _ => rfl) ht
      have h3 := hat 0 (by omega)
      rw [addr_twice] at h3
      refine ⟨A, ps, c, by simpa using h3, h1, ?_⟩
      have h4 : Rows.uptoBulk (D i) ≤ Rows.uptoBulkAll ((List.range len).map D) := bulk_part (List.mem_map.2 ⟨i, List.mem_range.2 hil, rfl⟩)
      rw [hd] at hbulk
      simp only [Rows.uptoBulk] at hbulk
      simp only at h2
      omega
    obtain ⟨l, hll, hla⟩ := pps_list hs len (Nat.le_refl _)
    refine ⟨l, hll, ⟨fun i hil => ?_, fun i => ?_⟩⟩
    · have hil' : l[i]? = some (l.getD i []) := by simp [hil]
      obtain ⟨A, c, h1, h2, h3⟩ := hla i _ hil'
      have h4 := World.block_lt_of_cell? w _ h1
      rw [addr_block] at h4
      exact ⟨b, rfl, h4, A, c, h1, h2⟩
    · by_cases hil : i < l.length
      · have hil' : l[i]? = some (l.getD i []) := by simp [hil]
        obtain ⟨A, c, h1, h2, h3⟩ := hla i _ hil'
        exact h3
      · simp [Nat.not_lt.1 hil]
end
end Go.Proofs.YtkcekjpohpenkaaDoor
