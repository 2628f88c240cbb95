import Derived.Test.YtkcekjpohpenkaaDoorPayb
/- The ledger's walks: codes, money, all pays. -/
set_option linter.unusedVariables false
set_option linter.unusedSimpArgs false
set_option maxRecDepth 100000
namespace Go.Proofs.YtkcekjpohpenkaaDoor
open Go.RowKit Mo

/-- the variable that errors.As reads -/
def Laid (w : World) : Prop := w.cell? ⟨0, 0, none⟩ = some errCell
theorem Laid.pos {w : World} (h : Laid w) : 0 < w.heap.size := World.block_lt_of_cell? w _ h
theorem Laid.below {w w' : World} {n : Nat} (h : Laid w) (hn : 0 < n) (hb : Below n w w') : Laid w' := (hb.cell (p := ⟨0, 0, none⟩) hn).trans h
theorem Laid.grown {w w' : World} {g : Nat} (h : Laid w) (hg : w.grownBy w' (some g)) (hne : 0 < g) : Laid w' :=
  (World.cell?_of_block (hg.block 0 h.pos (fun e => by cases e; omega))).trans h

theorem code_calls (w : World) (hg : Laid w) (c : Int) : Calls Tryd.prog 28 #[errV c] w fun e w' => e = .returned (.int .i64 c) ∧ Below w.heap.size w w' := by
  by_cases h0 : c = 0
  · subst h0
    unfold errV
    rw [if_pos rfl]
    go_enter Tryd.func28, Tryd.ntmps28
    go_wp2_with (go_at_call 40; refine (as_nil _ _).mono ?_; rintro e w' ⟨rfl, rfl⟩)
    go_ret
    exact ⟨rfl, (Below.refl _ _).alloc (Nat.le_refl _) _⟩
  · unfold errV
    rw [if_neg h0]
    have hga : (w.alloc (.cells #[.int .i64 0] 94)).cell? ⟨0, 0, none⟩ = some errCell := (World.cell?_alloc_lt _ _ ⟨0, 0, none⟩ hg.pos).trans hg
    have hs := Lib.hid (as_hit c ⟨w.heap.size, 0, none⟩ (.int .i64 0) (w.alloc (.cells #[.int .i64 0] 94)) hga (by simp) (by simp))
    have hb := Lib.hid ((((((Below.refl w.heap.size w).alloc (Nat.le_refl _) (.cells #[.int .i64 0] 94)).alloc (by simp) (.cells #[.pointer (some ⟨w.heap.size, 0, none⟩)] 96)).alloc (by simp; omega) (.cells #[.pointer (some ⟨1, 96, none⟩), .pointer (some ⟨(w.alloc (.cells #[.int .i64 0] 94)).heap.size, 0, none⟩), .int .u64 150] 110)).alloc (by simp; omega) (.cells #[.pointer (some ⟨1, 96, none⟩), .pointer (some ⟨(w.alloc (.cells #[.int .i64 0] 94)).heap.size, 0, none⟩), .int .u64 150] 110)).alloc (by simp; omega) (.cells #[.int .i64 c] 94))
    go_enter Tryd.func28, Tryd.ntmps28
    go_wp2_with (go_at_call 40; refine (hs.out).mono ?_; rintro e w' ⟨rfl, rfl⟩; have hcell := World.cell?_setCell_same' (((((w.alloc (.cells #[.int .i64 0] 94)).alloc (.cells #[.pointer (some ⟨w.heap.size, 0, none⟩)] 96)).alloc (.cells #[.pointer (some ⟨1, 96, none⟩), .pointer (some ⟨(w.alloc (.cells #[.int .i64 0] 94)).heap.size, 0, none⟩), .int .u64 150] 110)).alloc (.cells #[.pointer (some ⟨1, 96, none⟩), .pointer (some ⟨(w.alloc (.cells #[.int .i64 0] 94)).heap.size, 0, none⟩), .int .u64 150] 110)).alloc (.cells #[.int .i64 c] 94)) ⟨w.heap.size, 0, none⟩ (.int .i64 c) (by rw [World.cell?_alloc_lt _ _ ⟨w.heap.size, 0, none⟩ (by simp; omega), World.cell?_alloc_lt _ _ ⟨w.heap.size, 0, none⟩ (by simp; omega), World.cell?_alloc_lt _ _ ⟨w.heap.size, 0, none⟩ (by simp; omega), World.cell?_alloc_lt _ _ ⟨w.heap.size, 0, none⟩ (by simp)]; simp); have hfin := Lib.hid (hb.out.setCell (p := ⟨w.heap.size, 0, none⟩) (Nat.le_refl _) (.int .i64 c)); generalize World.setCell _ _ _ = W5 at hcell hfin ⊢)
    go_ret
    exact ⟨rfl, hfin.out⟩

/-! ### money -/
def bad (n : Int) : Bool := decide (n < 0) || decide (1099511627776 < n)
theorem bad_calls (w : World) (n : Int) (b : Bool) (hb : bad n = b) : Calls Tryd.prog 27 #[.int .i64 n] w fun e w' => e = .returned (.bool b) ∧ w = w' := by
  subst hb
  by_cases h0 : n < 0
  · have h0' : decide (n < 0) = true := by simpa using h0
    go_enter Tryd.func27, Tryd.ntmps27
    go_wp2_with fail
    go_ret
    exact ⟨by simp [bad, h0], rfl⟩
  · have h0' : decide (n < 0) = false := by simpa using h0
    go_enter Tryd.func27, Tryd.ntmps27
    go_wp2_with fail
    go_ret
    exact ⟨by simp [bad, h0]; omega, rfl⟩

/-- money that came in, to be read -/
structure MRow (w : World) (a : Option Addr) (m : List Int) : Prop where
  row : ∀ i : Nat, i < m.length → ∃ b : Addr, a = some b ∧ b.block < w.heap.size ∧ ∀ x, m[i]? = some x → w.cell? (b.add i) = some (.int .i64 x)
theorem MRow.later {w w' : World} {a : Option Addr} {m : List Int} (h : MRow w a m) (hb : Below w.heap.size w w') : MRow w' a m :=
  ⟨fun i hi => by
    obtain ⟨b, rfl, hlt, hx⟩ := h.row i hi
    exact ⟨b, rfl, Nat.lt_of_lt_of_le hlt hb.size, fun x hxl => (hb.cell (p := b.add i) (by rw [addr_block]; exact hlt)).trans (hx x hxl)⟩⟩

section
variable {w : World} {a : Option Addr} {m : List Int} {cap : Nat}
set_option maxHeartbeats 1000000 in
theorem index_good (h : MRow w a m) (hm : m.length ≤ 1000) (hg : ∀ x ∈ m, bad x = false) :
    Calls Tryd.prog 39 #[.slice a m.length cap, .func (.func 27) #[] #[]] w fun e w' => e = .returned (.int .i64 (-1)) ∧ w = w' := by
  have H := Lib.hid h
  have HG := Lib.hid hg
  clear h hg
  go_enter Tryd.func39, Tryd.ntmps39
  go_wp2_with fail
  go_loopw [8] (fun v wr => ∃ k : Nat, v = .int .i64 k ∧ k ≤ m.length ∧ w = wr) (fun v _ => m.length - (intOf v).toNat)
  case atStart => exact ⟨0, rfl, by omega, rfl⟩
  case round =>
    obtain ⟨k, rfl, hk, rfl⟩ := hrel
    by_cases hkl : k = m.length
    · subst hkl
      go_wp2_with fail
      go_ret
      exact ⟨rfl, rfl⟩
    · have hkl' : k < m.length := by omega
      obtain ⟨ab, rfl, hab, hx⟩ := H.out.row k hkl'
      have hxl : m[k]? = some m[k] := List.getElem?_eq_getElem hkl'
      have y0 := hx _ hxl
      have hbx := Lib.hid (HG.out m[k] (List.getElem_mem hkl'))
      have HX := Lib.hid hx
      have HK := Lib.hid hkl
      clear hx hxl hkl
      generalize m[k] = x at y0 hbx
      go_wp2_with (go_at_call 27; refine (bad_calls _ _ false hbx.out).mono ?_; rintro e w' ⟨rfl, rfl⟩)
      go_roundw
      case measure => simp [intOf]; omega
      exact ⟨k + 1, by simp, by omega, trivial⟩

set_option maxHeartbeats 1000000 in
theorem index_bad (h : MRow w a m) (hm : m.length ≤ 1000) (j : Nat) (hj : j < m.length) (hbj : bad (m.getD j 0) = true) (hg : ∀ i, i < j → bad (m.getD i 0) = false) :
    Calls Tryd.prog 39 #[.slice a m.length cap, .func (.func 27) #[] #[]] w fun e w' => e = .returned (.int .i64 j) ∧ w = w' := by
  have H := Lib.hid h
  have HG := Lib.hid hg
  have HJ := Lib.hid hbj
  clear h hg hbj
  go_enter Tryd.func39, Tryd.ntmps39
  go_wp2_with fail
  go_loopw [8] (fun v wr => ∃ k : Nat, v = .int .i64 k ∧ k ≤ j ∧ w = wr) (fun v _ => m.length - (intOf v).toNat)
  case atStart => exact ⟨0, rfl, by omega, rfl⟩
  case round =>
    obtain ⟨k, rfl, hk, rfl⟩ := hrel
    have hkl' : k < m.length := by omega
    obtain ⟨ab, rfl, hab, hx⟩ := H.out.row k hkl'
    have hxl : m[k]? = some (m.getD k 0) := by simp [List.getElem?_eq_getElem hkl']
    have y0 := hx _ hxl
    have HX := Lib.hid hx
    clear hx hxl
    by_cases hkj : j = k
    · subst hkj
      generalize m.getD j 0 = x at y0 HJ
      go_wp2_with (go_at_call 27; refine (bad_calls _ _ true HJ.out).mono ?_; rintro e w' ⟨rfl, rfl⟩)
      go_ret
      exact ⟨rfl, rfl⟩
    · have hbx := Lib.hid (HG.out k (by omega))
      have HK := Lib.hid hkj
      clear hkj
      generalize m.getD k 0 = x at y0 hbx
      go_wp2_with (go_at_call 27; refine (bad_calls _ _ false hbx.out).mono ?_; rintro e w' ⟨rfl, rfl⟩)
      go_roundw
      case measure => simp [intOf]; omega
      exact ⟨k + 1, by simp, by have := HK.out; omega, trivial⟩

theorem first_bad : ∀ (m : List Int), m.any bad = true → ∃ j, j < m.length ∧ bad (m.getD j 0) = true ∧ ∀ i, i < j → bad (m.getD i 0) = false
  | [], h => by simp at h
  | x :: r, h => by
    cases hx : bad x with
    | true => exact ⟨0, by simp, by simpa using hx, fun i hi => by omega⟩
    | false =>
      obtain ⟨j, h1, h2, h3⟩ := first_bad r (by simpa [hx] using h)
      refine ⟨j + 1, by simpa using h1, by simpa using h2, fun i hi => ?_⟩
      cases i with
      | zero => simpa using hx
      | succ i => simpa using h3 i (by omega)

theorem contains_calls (h : MRow w a m) (hm : m.length ≤ 1000) (b : Bool) (hb : m.any bad = b) :
    Calls Tryd.prog 26 #[.slice a m.length cap, .func (.func 27) #[] #[]] w fun e w' => e = .returned (.bool b) ∧ w = w' := by
  cases b with
  | false =>
    have hi := Lib.hid (index_good (cap := cap) h hm (fun x hx => by
      cases hbx : bad x with
      | false => rfl
      | true => exact absurd (List.any_eq_true.2 ⟨x, hx, hbx⟩) (by rw [hb]; simp)))
    clear hb h
    go_enter Tryd.func26, Tryd.ntmps26
    go_wp2_with (go_at_call 39; refine (hi.out).mono ?_; rintro e w' ⟨rfl, rfl⟩)
    go_ret
    exact ⟨rfl, rfl⟩
  | true =>
    obtain ⟨j, h1, h2, h3⟩ := first_bad m hb
    have hi := Lib.hid (index_bad (cap := cap) h hm j h1 h2 h3)
    clear hb h h2 h3
    go_enter Tryd.func26, Tryd.ntmps26
    go_wp2_with (go_at_call 39; refine (hi.out).mono ?_; rintro e w' ⟨rfl, rfl⟩)
    go_ret
    exact ⟨by simp, rfl⟩
end
end Go.Proofs.YtkcekjpohpenkaaDoor
