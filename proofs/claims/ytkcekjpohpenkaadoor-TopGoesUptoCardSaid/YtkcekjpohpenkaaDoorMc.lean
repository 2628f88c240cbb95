import Derived.Test.YtkcekjpohpenkaaDoorMb
import Derived.Maps.Own
import Derived.Maps.OwnOps
import Derived.Maps.RangeWalk
import Derived.DeepKeys4
import Derived.WideKeyEntry
set_option linter.unusedVariables false
set_option linter.unusedSimpArgs false
set_option maxRecDepth 100000
namespace Go.Proofs.YtkcekjpohpenkaaDoor
open Go.RowKit Mo
open Go.Maps (Keyed)

/-! ### the keys of the two maps -/
def gv (r i h : Int) : Value := .agg #[.int .i64 r, .int .i64 i, .int .i64 h]
def av (i r : Int) : Value := .agg #[.int .i64 i, .int .i64 r]

theorem given_key : Tryd.prog.keyType 105 = true := by kernel_rfl
theorem arr_key : Tryd.prog.keyType 106 = true := by kernel_rfl
theorem given_cells : Tryd.prog.cellsOf 105 = 3 := by kernel_rfl
theorem arr_cells : Tryd.prog.cellsOf 106 = 2 := by kernel_rfl
theorem int_cells : Tryd.prog.cellsOf 3 = 1 := by kernel_rfl
theorem types_size : Tryd.prog.types.size = 162 := by kernel_rfl

theorem given_keyed : Keyed Tryd.prog 105 := Keyed.of_law (deep_law_laid (k := 105) (m := 3) (by kernel_rfl) (by omega) (by rw [types_size]; decide) (by kernel_rfl) (by kernel_rfl))
theorem arr_keyed : Keyed Tryd.prog 106 := Keyed.of_law (deep_law_laid (k := 106) (m := 3) (by kernel_rfl) (by omega) (by rw [types_size]; decide) (by kernel_rfl) (by kernel_rfl))

theorem int_lits (d : Nat) (r : Int) (hr : (Lit.int .i64 r).wf = true) : Tryd.prog.keyLits (d + 1) 3 [.int .i64 r] = some [.int .i64 r] := by
  simp [Program.keyLits, Tryd.underlying3, hr]
theorem int_lits_inv {d : Nat} {c : Value} {l : List Lit} (h : Tryd.prog.keyLits (d + 1) 3 [c] = some l) : ∃ r, c = .int .i64 r := by
  cases c <;> simp [Program.keyLits, Tryd.underlying3] at h
  obtain ⟨⟨rfl, _⟩, _⟩ := h
  exact ⟨_, rfl⟩

theorem given_lits (d : Nat) (a b c : Value) : Tryd.prog.keyLits (d + 2) 105 [a, b, c] =
    ((Tryd.prog.keyLits (d + 1) 3 [a]).bind fun x => (Tryd.prog.keyLits (d + 1) 3 [b]).bind fun y => (Tryd.prog.keyLits (d + 1) 3 [c]).map fun z => x ++ (y ++ z)) := by
  rw [show d + 2 = (d + 1) + 1 from rfl]
  conv => lhs; unfold Program.keyLits
  simp [Tryd.underlying105, given_cells, int_cells]
  generalize Tryd.prog.keyLits (d + 1) 3 [a] = x
  generalize Tryd.prog.keyLits (d + 1) 3 [b] = y
  generalize Tryd.prog.keyLits (d + 1) 3 [c] = z
  cases x <;> cases y <;> cases z <;> simp
theorem arr_lits (d : Nat) (a b : Value) : Tryd.prog.keyLits (d + 2) 106 [a, b] =
    ((Tryd.prog.keyLits (d + 1) 3 [a]).bind fun x => (Tryd.prog.keyLits (d + 1) 3 [b]).map fun y => x ++ y) := by
  rw [show d + 2 = (d + 1) + 1 from rfl]
  conv => lhs; unfold Program.keyLits
  simp [Tryd.underlying106, arr_cells, int_cells, show List.range 2 = [0, 1] from rfl]
  generalize Tryd.prog.keyLits (d + 1) 3 [a] = x
  generalize Tryd.prog.keyLits (d + 1) 3 [b] = y
  cases x <;> cases y <;> simp

theorem gv_key (r i h : Int) (hr : (Lit.int .i64 r).wf = true) (hi : (Lit.int .i64 i).wf = true) (hh : (Lit.int .i64 h).wf = true) : ∃ kl, keyOf Tryd.prog 105 (gv r i h) = some kl := by
  unfold keyOf
  rw [Tryd.underlying105, given_key, types_size]
  have e : Tryd.prog.keyLits (162 + 1) 105 (gv r i h).cells.toList = some [.int .i64 r, .int .i64 i, .int .i64 h] := by
    show Tryd.prog.keyLits (161 + 2) 105 [_, _, _] = _
    rw [given_lits, int_lits 161 _ hr, int_lits 161 _ hi, int_lits 161 _ hh]
    rfl
  rw [e]
  simp [gv, Value.formed, Tryd.underlying105, given_cells]
theorem av_key (i r : Int) (hi : (Lit.int .i64 i).wf = true) (hr : (Lit.int .i64 r).wf = true) : ∃ kl, keyOf Tryd.prog 106 (av i r) = some kl := by
  unfold keyOf
  rw [Tryd.underlying106, arr_key, types_size]
  have e : Tryd.prog.keyLits (162 + 1) 106 (av i r).cells.toList = some [.int .i64 i, .int .i64 r] := by
    show Tryd.prog.keyLits (161 + 2) 106 [_, _] = _
    rw [arr_lits, int_lits 161 _ hi, int_lits 161 _ hr]
    rfl
  rw [e]
  simp [av, Value.formed, Tryd.underlying106, arr_cells]
theorem gv_inv {v : Value} {kl : Lit} (h : keyOf Tryd.prog 105 v = some kl) : ∃ x : Int × Int × Int, v = gv x.1 x.2.1 x.2.2 := by
  unfold keyOf at h
  rw [Tryd.underlying105, given_key, types_size] at h
  simp only [Bool.true_and] at h
  split at h
  · rename_i hf
    obtain ⟨ls, hls, _⟩ := Option.map_eq_some_iff.1 h
    obtain ⟨cs, rfl, hcs⟩ : ∃ cs : Array Value, v = .agg cs ∧ cs.size = 3 := by
      cases v <;> simp [Value.formed, Tryd.underlying105, given_cells] at hf
      exact ⟨_, rfl, hf⟩
    obtain ⟨l⟩ := cs
    match l, hcs with
    | [a, b, c], _ =>
      have hls' : Tryd.prog.keyLits (161 + 2) 105 [a, b, c] = some ls := hls
      rw [given_lits] at hls'
      obtain ⟨x, hx, h1⟩ := Option.bind_eq_some_iff.1 hls'
      obtain ⟨y, hy, h2⟩ := Option.bind_eq_some_iff.1 h1
      obtain ⟨z, hz, _⟩ := Option.map_eq_some_iff.1 h2
      obtain ⟨r, rfl⟩ := int_lits_inv hx
      obtain ⟨i, rfl⟩ := int_lits_inv hy
      obtain ⟨j, rfl⟩ := int_lits_inv hz
      exact ⟨(r, i, j), rfl⟩
  · cases h

/-- block m holds the map of what was given up, by round, process, and the round known -/
def LateAt (w : World) (m : Nat) (L : List (Int × Int × Int)) (K : Nat) : Prop :=
  ∃ n D, n ≤ K ∧ w.ownsMap Tryd.prog 105 (plainElem (H := Unit) Tryd.prog 3) m n D ∧ ∀ v kl, keyOf Tryd.prog 105 v = some kl → (Maps.has D kl = true ↔ ∃ x ∈ L, v = gv x.1 x.2.1 x.2.2)

def Done (D : DataW Unit) (left : Lit → Bool) (round high : Int) (j : Nat) : Prop :=
  ∃ (x : Int × Int × Int) (kl : Lit), keyOf Tryd.prog 105 (gv x.1 x.2.1 x.2.2) = some kl ∧ Maps.has D kl = true ∧ left kl = false ∧ x.1 = round ∧ x.2.1 = (j : Int) ∧ x.2.2 ≤ high
structure Mask (D : DataW Unit) (left : Lit → Bool) (round high : Int) (m : Nat) : Prop where
  lt : m < 4294967296
  bit : ∀ j, m.testBit j = true ↔ Done D left round high j

theorem mask_start (D : DataW Unit) (r q : Int) : Mask D (Maps.has D) r q 0 := by
  refine ⟨by omega, fun j => ?_⟩
  simp only [Nat.zero_testBit, Bool.false_eq_true, false_iff]
  rintro ⟨x, kl, _, h1, h2, _⟩
  rw [h1] at h2
  cases h2

/-- what is still to come is in the map -/
theorem ranges_has {P : Program} {k : TypeId} {R : Value → Option (DataW Unit × List MemPlace)} {w : World} {b r n : Nat} {D : DataW Unit} {left : Lit → Bool} {cnt : Nat} (K : Keyed P k)
    (h : w.ranges P k R b r n D left cnt) {kl : Lit} (hl : left kl = true) : Maps.has D kl = true := by
  obtain ⟨es, clock, since, seen, c0, hb, F, hs, rfl, hr, hold, hc, hl1, hl2, hsc, hsk⟩ := h
  obtain ⟨x, hx, rfl⟩ := hl2 kl hl
  obtain ⟨y, hy⟩ := F.reads x hx
  exact List.any_eq_true.2 ⟨Go.WideElems.rg P k R x, mem_sorted.2 (List.mem_map.2 ⟨x, hx, rfl⟩), WideAt.sameKey_self (by rw [Go.WideElems.rg_of hy]; exact K.key (Go.WideElems.rd_key hy))⟩

theorem gv_inj {x y : Int × Int × Int} (h : gv x.1 x.2.1 x.2.2 = gv y.1 y.2.1 y.2.2) : x = y := by
  obtain ⟨a, b, c⟩ := x
  obtain ⟨a', b', c'⟩ := y
  simp [gv] at h
  simp [h]

/-- one entry more has been looked at: it counts, or it doesn't -/
theorem done_more {D : DataW Unit} {left : Lit → Bool} {r q : Int} {x : Int × Int × Int} {kl : Lit} (hk : keyOf Tryd.prog 105 (gv x.1 x.2.1 x.2.2) = some kl) (hh : Maps.has D kl = true) (hl : left kl = true) (j : Nat) :
    Done D (fun z => left z && !z.sameKey kl) r q j ↔ Done D left r q j ∨ (x.1 = r ∧ x.2.1 = (j : Int) ∧ x.2.2 ≤ q) := by
  constructor
  · rintro ⟨y, kl', h1, h2, h3, h4⟩
    simp only [Bool.and_eq_false_iff, Bool.not_eq_false'] at h3
    rcases h3 with h3 | h3
    · exact .inl ⟨y, kl', h1, h2, h3, h4⟩
    · have e : kl' = kl := WideAt.sameKey_eq h3
      subst e
      have := gv_inj (given_keyed.inj h1 hk)
      subst this
      exact .inr h4
  · rintro (⟨y, kl', h1, h2, h3, h4⟩ | h4)
    · exact ⟨y, kl', h1, h2, by simp [h3], h4⟩
    · exact ⟨x, kl, hk, hh, by simp [WideAt.sameKey_self (given_keyed.key hk)], h4⟩
theorem mask_keep {D : DataW Unit} {left : Lit → Bool} {r q : Int} {m : Nat} {x : Int × Int × Int} {kl : Lit} (hm : Mask D left r q m) (hk : keyOf Tryd.prog 105 (gv x.1 x.2.1 x.2.2) = some kl) (hh : Maps.has D kl = true) (hl : left kl = true)
    (hn : ¬ (x.1 = r ∧ x.2.2 ≤ q)) : Mask D (fun z => left z && !z.sameKey kl) r q m := by
  refine ⟨hm.lt, fun j => ?_⟩
  rw [hm.bit j, done_more hk hh hl]
  constructor
  · exact .inl
  · rintro (h | ⟨h1, h2, h3⟩)
    · exact h
    · exact absurd ⟨h1, h3⟩ hn
theorem two_lt {j : Nat} (hj : j < 32) : 2 ^ j < 4294967296 := Nat.pow_lt_pow_right (a := 2) (n := 32) (m := j) (by omega) hj
theorem mask_add {D : DataW Unit} {left : Lit → Bool} {r q : Int} {m j : Nat} {x : Int × Int × Int} {kl : Lit} (hm : Mask D left r q m) (hk : keyOf Tryd.prog 105 (gv x.1 x.2.1 x.2.2) = some kl) (hh : Maps.has D kl = true) (hl : left kl = true)
    (h1 : x.1 = r) (h2 : x.2.1 = (j : Int)) (h3 : x.2.2 ≤ q) (hj : j < 32) : Mask D (fun z => left z && !z.sameKey kl) r q (m ||| 2 ^ j) := by
  refine ⟨Nat.or_lt_two_pow (n := 32) hm.lt (two_lt hj), fun i => ?_⟩
  rw [Nat.testBit_or, Nat.testBit_two_pow, Bool.or_eq_true, hm.bit i, done_more hk hh hl]
  simp only [decide_eq_true_eq]
  constructor
  · rintro (h | rfl)
    · exact .inl h
    · exact .inr ⟨h1, h2, h3⟩
  · rintro (h | ⟨_, h, _⟩)
    · exact .inl h
    · exact .inr (by omega)
theorem or_walk (m j : Nat) (hm : m < 4294967296) (hj : j < 32) : bits BinOp.or IntKind.u32 (m : Int) ((2 : Int) ^ j % 4294967296) = ((m ||| 2 ^ j : Nat) : Int) := by
  have h := two_lt hj
  have e : (2 : Int) ^ j % 4294967296 = ((2 ^ j : Nat) : Int) := by
    have e1 : (2 : Int) ^ j = ((2 ^ j : Nat) : Int) := by simp
    rw [e1]
    generalize 2 ^ j = t at h ⊢
    omega
  rw [e]
  exact u32_or_nat _ _ hm h

theorem below_round {w wr w1 : World} (h : Below w.heap.size w wr) (hg : wr.grownBy w1 (some w.heap.size)) {o : Obj} : Below w.heap.size w (w1.alloc o) :=
  ((h.grown hg h.size (fun k hk => by cases hk; exact Nat.le_refl _))).alloc (Nat.le_trans h.size hg.size) o

theorem who_nat {D : DataW Unit} {L : List (Int × Int × Int)} {x1 x2 x3 : Int} {kl : Lit} (hw : ∀ x ∈ L, 0 ≤ x.2.1 ∧ x.2.1 < 32) (hD : ∀ v kl, keyOf Tryd.prog 105 v = some kl → (Maps.has D kl = true ↔ ∃ x ∈ L, v = gv x.1 x.2.1 x.2.2))
    (hk : keyOf Tryd.prog 105 (gv x1 x2 x3) = some kl) (hh : Maps.has D kl = true) : ∃ j : Nat, j < 32 ∧ x2 = (j : Int) := by
  obtain ⟨x, hx, e⟩ := (hD _ _ hk).1 hh
  have := gv_inj (x := (x1, x2, x3)) e
  subst this
  obtain ⟨h0, h1⟩ := hw _ hx
  exact ⟨x2.toNat, by simp at h0 h1; omega, by simp at h0; omega⟩

set_option maxHeartbeats 400000 in
theorem passed_any (w : World) (b lm need K : Nat) (L : List (Int × Int × Int)) (r q : Int) (hc6 : w.cell? ⟨b, 6, none⟩ = some (.map (some lm))) (hc1 : w.cell? ⟨b, 1, none⟩ = some (.int .i64 need)) (hL : LateAt w lm L K)
    (hwho : ∀ x ∈ L, 0 ≤ x.2.1 ∧ x.2.1 < 32) :
    Calls Tryd.prog 50 #[.pointer (some ⟨b, 0, none⟩), .int .i64 r, .int .i64 q] w fun e w' =>
      (∃ m D, Mask D (fun _ => false) r q m ∧ (∀ v kl, keyOf Tryd.prog 105 v = some kl → (Maps.has D kl = true ↔ ∃ x ∈ L, v = gv x.1 x.2.1 x.2.2)) ∧ e = .returned (.bool (decide (need ≤ pop m)))) ∧ Below w.heap.size w w' := by
  obtain ⟨n, D, hn, hown, hD0⟩ := hL
  have HD := Lib.hid hD0
  have HW := Lib.hid hwho
  clear hD0 hwho
  go_enter Tryd.func50, Tryd.ntmps50
  go_wp2_with (first | (at_range; refine wpList_range_own _ rfl _ 67 rfl 105 3 given_keyed Tryd.underlying67 _ lm n D rfl hown ?_; intro w0 hrg0 hg0 hs0) | fail)
  go_frame
  go_loopw [7] (fun v wr => ∃ left cnt m, wr.ranges Tryd.prog 105 (plainElem (H := Unit) Tryd.prog 3) lm w.heap.size n D left cnt ∧ v = .int .u32 ((m : Nat) : Int) ∧ Mask D left r q m ∧ Below w.heap.size w wr) (fun _ wr => wr.rangeLeft lm w.heap.size)
  case atStart => exact ⟨_, _, 0, hrg0, rfl, mask_start D r q, (Below.refl _ _).grown hg0 (Nat.le_refl _) (by simp)⟩
  case round =>
    obtain ⟨left, cnt, m, hrg, rfl, hmask, hbel⟩ := hrel
    go_wp2_with (first | (at_next; refine wpList_next_ranges _ rfl _ rfl 105 given_keyed (plainElem (H := Unit) Tryd.prog 3) (fun x : Int × Int × Int => Value.agg #[.int .i64 x.1, .int .i64 x.2.1, .int .i64 x.2.2]) (Value.int .i64) (fun key kl h => gv_inv h) (fun v y h => by obtain ⟨c, hc, _⟩ := plainElem_int_inv Tryd.underlying3 h; exact ⟨c, hc⟩) lm w.heap.size n D left cnt rfl hrg ?_ ?_; rotate_left; intro x c kl y w1 cnt1 hkl hlk hy hat hrg1 hlt hg1 hs1 hen; obtain ⟨x1, x2, x3⟩ := x; have hhas := ranges_has given_keyed hrg hlk; obtain ⟨j, hj, rfl⟩ := who_nat HW.out HD.out hkl hhas; have HH := Lib.hid hhas; clear hhas; have HO := Lib.hid hmask; clear hmask; have HK := Lib.hid hkl; have HA := Lib.hid hat; have HL := Lib.hid hlk; clear hkl hat hlk; rotate_right; intro hc0 hl0) | fail)
    · have e : left = fun _ => false := funext hl0
      have hm32 := hmask.lt
      have HM := Lib.hid hmask
      clear hmask
      have hc1' := (hbel.cell (World.block_lt_of_cell? w _ hc1)).trans hc1
      go_quiet ((go_at_call 35; exact Calls.quiet_of (ones_any _ m hm32)))
      go_wp2
      go_ret
      exact ⟨⟨m, D, e ▸ HM.out, HD.out, by simp⟩, below_drewN hbel nq⟩
    · have h1 : x1 = r := by assumption
      have h3 : x3 ≤ q := by assumption
      rw [or_walk m j HO.out.lt hj]
      refine ⟨⟨_, _, _, hrg1.alloc _, rfl, mask_add (x := (x1, (j : Int), x3)) HO.out HK.out HH.out HL.out h1 rfl h3 hj, below_round hbel hg1⟩, ?_⟩
      rw [(hrg1.alloc _).left_eq, hrg.left_eq]
      exact hlt
    · have h3 : q < x3 := by assumption
      refine ⟨⟨_, _, _, hrg1.alloc _, rfl, mask_keep (x := (x1, (j : Int), x3)) HO.out HK.out HH.out HL.out (fun h => by have := h.2; simp at this; omega), below_round hbel hg1⟩, ?_⟩
      rw [(hrg1.alloc _).left_eq, hrg.left_eq]
      exact hlt
    · have h1 : ¬ x1 = r := by assumption
      refine ⟨⟨_, _, _, hrg1.alloc _, rfl, mask_keep (x := (x1, (j : Int), x3)) HO.out HK.out HH.out HL.out (fun h => h1 h.1), below_round hbel hg1⟩, ?_⟩
      rw [(hrg1.alloc _).left_eq, hrg.left_eq]
      exact hlt
end Go.Proofs.YtkcekjpohpenkaaDoor
