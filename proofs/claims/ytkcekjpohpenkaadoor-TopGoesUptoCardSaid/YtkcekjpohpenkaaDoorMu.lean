import Derived.Test.YtkcekjpohpenkaaDoorMt
import Derived.Test.YtkcekjpohpenkaaDoorMo
import Derived.Laws.ResultCell
import Derived.Deep.DrawnRows
set_option linter.unusedVariables false
set_option linter.unusedSimpArgs false
namespace Go.Proofs.YtkcekjpohpenkaaDoor
open Go.RowKit Mo
attribute [local go_sem ↓] Go.wp_at_zero Go.wp_at_succ

/-- a script, to be read -/
structure SRow (w : World) (a : Option Addr) (l : List Say) : Prop where
  row : ∀ i : Nat, i < l.length → ∃ b : Addr, a = some b ∧ b.block < w.heap.size ∧ ∀ x, l[i]? = some x →
    w.cell? (b.add (i * 5)) = some (.int .i64 x.kind) ∧ w.cell? (b.add (i * 5 + 1)) = some (.int .i64 x.who) ∧ w.cell? (b.add (i * 5 + 2)) = some (.int .i64 x.block) ∧
    w.cell? (b.add (i * 5 + 3)) = some (.int .i64 x.round) ∧ w.cell? (b.add (i * 5 + 4)) = some (.int .i64 x.high)
theorem addr_block (a : Addr) (n : Nat) : (a.add n).block = a.block := by unfold Addr.add; split <;> rfl
theorem addr_twice (a : Addr) (i j : Nat) : (a.add i).add j = a.add (i + j) := by
  unfold Addr.add
  by_cases hi : i = 0 <;> by_cases hj : j = 0 <;> simp [hi, hj, Nat.add_assoc]
theorem SRow.later {w w' : World} {a : Option Addr} {l : List Say} (h : SRow w a l) (hb : Below w.heap.size w w') : SRow w' a l :=
  ⟨fun i hi => by
    obtain ⟨b, rfl, hlt, hx⟩ := h.row i hi
    refine ⟨b, rfl, Nat.lt_of_lt_of_le hlt hb.size, fun x hxl => ?_⟩
    obtain ⟨x0, x1, x2, x3, x4⟩ := hx x hxl
    have hc : ∀ n, w'.cell? (b.add n) = w.cell? (b.add n) := fun n => hb.cell (p := b.add n) (by rw [addr_block]; exact hlt)
    rw [hc, hc, hc, hc, hc]
    exact ⟨x0, x1, x2, x3, x4⟩⟩

/-- Play's code -/
def playCode (n f : Int) (liars len : Nat) : Int :=
  if n < 1 ∨ 7 < n ∨ 120 < len then 1 else if f < 0 ∨ (n - 1) / 3 < f then 3 else if liars / 2 ^ n.toNat ≠ 0 then 2 else 0

def zeroMeeting : Value := .agg #[.slice none 0 0, .slice none 0 0, .slice none 0 0, .slice none 0 0]

theorem play_ret {w : World} {tmps : Array Value} {B : Nat} {c0 c1 c2 c3 : Value} (h8 : tmps.getD 8 undef = .pointer (some ⟨B, 0, none⟩)) (hb : Blk w B 30 #[c0, c1, c2, c3])
    (h0 : c0.oneCell' = true) (h1 : c1.oneCell' = true) (h2 : c2.oneCell' = true) (h3 : c3.oneCell' = true) :
    (results Tryd.f9 tmps).run Tryd.prog w = .ok (.tuple #[.agg #[c0, c1, c2, c3], tmps.getD 9 undef]) w := by
  have e0 := hb.cell 0
  have e1 := hb.cell 1
  have e2 := hb.cell 2
  have e3 := hb.cell 3
  simp only [List.getElem?_toArray, List.getElem?_cons_zero, List.getElem?_cons_succ] at e0 e1 e2 e3
  rw [results_cell_tmp rfl, h8]
  simp [go_sem, e0, e1, e2, e3]

section
variable {w : World} {a : Option Addr} {cap : Nat}
set_option maxHeartbeats 2000000 in
set_option maxRecDepth 100000 in
theorem play_large (n f : Int) (liars len : Nat) (h : n < 1 ∨ 7 < n ∨ 120 < len) :
    Calls Tryd.prog 9 #[.int .i64 n, .int .i64 f, .int .u32 liars, .slice a len cap] w fun e w' => e = .returned (.tuple #[zeroMeeting, .int .i64 1]) ∧ Below w.heap.size w w' := by
  by_cases h1 : n < 1
  · go_enter Tryd.func9, Tryd.ntmps9
    go_wp2_with fail
    refine bodyPost_ret (play_ret rfl (Blk.new w _ _) rfl rfl rfl rfl) rfl ?_
    exact ⟨rfl, (Below.refl _ w).alloc (Nat.le_refl _) _⟩
  · have h1' : decide (n < 1) = false := by simpa using h1
    by_cases h2 : 7 < n
    · go_enter Tryd.func9, Tryd.ntmps9
      go_wp2_with fail
      refine bodyPost_ret (play_ret rfl (Blk.new w _ _) rfl rfl rfl rfl) rfl ?_
      exact ⟨rfl, (Below.refl _ w).alloc (Nat.le_refl _) _⟩
    · have h2' : decide (7 < n) = false := by simpa using h2
      have h3 : (120 : Int) < len := by omega
      go_enter Tryd.func9, Tryd.ntmps9
      go_wp2_with fail
      refine bodyPost_ret (play_ret rfl (Blk.new w _ _) rfl rfl rfl rfl) rfl ?_
      exact ⟨rfl, (Below.refl _ w).alloc (Nat.le_refl _) _⟩

set_option maxHeartbeats 2000000 in
set_option maxRecDepth 100000 in
theorem play_form (n f : Int) (liars len : Nat) (h1 : 1 ≤ n) (h2 : n ≤ 7) (h3 : len ≤ 120) (h : f < 0 ∨ (n - 1) / 3 < f) :
    Calls Tryd.prog 9 #[.int .i64 n, .int .i64 f, .int .u32 liars, .slice a len cap] w fun e w' => e = .returned (.tuple #[zeroMeeting, .int .i64 3]) ∧ Below w.heap.size w w' := by
  have t1 : decide (n < 1) = false := by simp; omega
  have t2 : decide (7 < n) = false := by simp; omega
  have t3 : decide ((120 : Int) < len) = false := by simp; omega
  by_cases hf : f < 0
  · go_enter Tryd.func9, Tryd.ntmps9
    go_wp2_with fail
    refine bodyPost_ret (play_ret rfl (Blk.new w _ _) rfl rfl rfl rfl) rfl ?_
    exact ⟨rfl, (Below.refl _ w).alloc (Nat.le_refl _) _⟩
  · have t4 : decide (f < 0) = false := by simpa using hf
    have h5 : (n - 1) / 3 < f := by omega
    go_enter Tryd.func9, Tryd.ntmps9
    go_wp2_with fail
    refine bodyPost_ret (play_ret rfl (Blk.new w _ _) rfl rfl rfl rfl) rfl ?_
    exact ⟨rfl, (Below.refl _ w).alloc (Nat.le_refl _) _⟩

set_option maxHeartbeats 2000000 in
set_option maxRecDepth 100000 in
theorem play_arg (n f liars len : Nat) (h1 : 1 ≤ n) (h2 : n ≤ 7) (h3 : len ≤ 120) (hf : f ≤ (n - 1) / 3) (hl : liars < 4294967296) (h : liars / 2 ^ n ≠ 0) :
    Calls Tryd.prog 9 #[.int .i64 n, .int .i64 f, .int .u32 liars, .slice a len cap] w fun e w' => e = .returned (.tuple #[zeroMeeting, .int .i64 2]) ∧ Below w.heap.size w w' := by
  have t1 : decide ((n : Int) < 1) = false := by simp; omega
  have t2 : decide ((7 : Int) < n) = false := by simp; omega
  have t3 : decide ((120 : Int) < len) = false := by simp; omega
  have t4 : decide ((f : Int) < 0) = false := by simp
  have t5 : decide (((n : Int) - 1) / 3 < f) = false := by simp; omega
  have t6 : ((liars : Int) / 2 ^ n != 0) = true := by
    simp only [bne_iff_ne, ne_eq]
    intro e
    exact h (by exact_mod_cast e)
  go_enter Tryd.func9, Tryd.ntmps9
  go_wp2_with fail
  refine bodyPost_ret (play_ret rfl (Blk.new w _ _) rfl rfl rfl rfl) rfl ?_
  exact ⟨rfl, (Below.refl _ w).alloc (Nat.le_refl _) _⟩
end
end Go.Proofs.YtkcekjpohpenkaaDoor
