import Derived.Test.YtkcekjpohpenkaaDoorAs
import Derived.Test.YtkcekjpohpenkaaDoorLg
import Derived.Test.YtkcekjpohpenkaaDoorMv
import Derived.LaidEqlPtr
import Derived.Lib.Builder
/- The ledger's walks: one pay. -/
set_option linter.unusedVariables false
set_option linter.unusedSimpArgs false
set_option maxRecDepth 100000
namespace Go.Proofs.YtkcekjpohpenkaaDoor
open Go.RowKit Mo

theorem run_neq_ptr_other {P : Program} (w : World) {tp te : TypeId} {j : TypeInfo} {a b : Addr} {ca cb : Array Value} {ta tb : TypeId} (hp : P.underlying tp = some (.pointer te)) (hte : P.info? te = some j) (hsz : j.size ≠ 0)
    (hne : a ≠ b) (ha : w.heap[a.block]? = some (.cells ca ta (0, 0))) (hb : w.heap[b.block]? = some (.cells cb tb (0, 0))) :
    (binOp .neq tp (.pointer (some a)) (.pointer (some b))).run P w = .ok (.bool true) w := by
  have h : ∀ d : Nat, (Op.equalIn (d + 1) tp (.pointer (some a)) (.pointer (some b))).run P w = .ok false w := fun d => by
    simp [Op.equalIn, run_underlying hp, sizeOf, typeInfo, hte, hsz, run_sameAddr_other w hne ha hb]
  simp only [binOp]
  simp [Op.equal, Op.maxDepth, h 9999]
theorem info_account : (Tryd.prog.info? 39).map (fun i => (i.zero, i.size, i.bytes)) = some (some (.agg #[.int .i64 0, .int .i64 0]), 2, 16) := by kernel_rfl
theorem neq_acc {w : World} {ga : Nat} {cs : Array Value} (hb : Blk w ga 39 cs) (a b : Nat) (hne : a ≠ b) :
    (binOp .neq 98 (.pointer (some ⟨ga, a * 2, none⟩)) (.pointer (some ⟨ga, b * 2, none⟩))).run Tryd.prog w = .ok (.bool true) w := by
  obtain ⟨j, hi, hz0, hz1, hz2⟩ := info_parts info_account
  exact run_neq_ptr_other w Tryd.underlying98 hi (by omega) (by simp [hne]) hb hb
theorem eq_acc (w : World) (a : Addr) :
    (binOp .neq 98 (.pointer (some a)) (.pointer (some a))).run Tryd.prog w = .ok (.bool false) w := by
  obtain ⟨j, hi, hz0, hz1, hz2⟩ := info_parts info_account
  exact Lib.run_neq_ptr_same w a Tryd.underlying98 hi

def payV (p : Lg.Pay) : Value := .agg #[.int .i64 p.src, .int .i64 p.dst, .int .i64 p.ser, .int .i64 p.n]
def errV (c : Int) : Value := if c = 0 then .nilIface else .iface 94 (.agg #[.int .i64 c])

theorem is_calls (w : World) (q : Nat) (a : Option Addr) (len cap : Nat) (i : Int) (b : Bool) (hb : (decide (0 ≤ i) && decide (i < len)) = b) (hq : w.cell? ⟨q, 0, none⟩ = some (.slice a len cap)) :
    Calls Tryd.prog 41 #[.int .i64 i, .pointer (some ⟨q, 0, none⟩)] w fun e w' => e = .returned (.bool b) ∧ w = w' := by
  subst hb
  by_cases h0 : 0 ≤ i
  · have h0' : decide (0 ≤ i) = true := by simpa using h0
    go_enter Tryd.func41, Tryd.ntmps41
    go_wp2_with fail
    go_ret
    exact ⟨by simp [h0], rfl⟩
  · have h0' : decide (0 ≤ i) = false := by simpa using h0
    go_enter Tryd.func41, Tryd.ntmps41
    go_wp2_with fail
    go_ret
    exact ⟨by simp [h0], rfl⟩

theorem refuse_calls (w : World) (c : Int) : Calls Tryd.prog 42 #[.int .i64 c] w fun e w' => e = .returned (.iface 94 (.agg #[.int .i64 c])) ∧ w = w' := by
  go_enter Tryd.func42, Tryd.ntmps42
  go_wp2_with fail
  go_ret
  exact ⟨rfl, rfl⟩

/-- what a pay leaves: the accounts, turned; all else as it was -/
structure PayAt (w : World) (B ga cap : Nat) (l : List Lg.Acc) (c : Int) (e : Ending) (w' : World) : Prop where
  ret : e = .returned (errV c)
  own : Own w' B 39 2 ga cap l.length (pairCells l)
  grown : w.grownBy w' (some ga)

section
variable {w : World} {B ga cap k : Nat} {l : List Lg.Acc}

theorem grown_of_below {w w' : World} (hb : Below w.heap.size w w') (r : Option Nat) : w.grownBy w' r := ⟨hb.os, hb.tape, hb.output, hb.size, fun i hi _ => hb.block i hi⟩

theorem refused (h : Own w B 39 2 ga cap l.length (pairCells l)) {w' : World} (hb : Below w.heap.size w w') {c : Int} (hc : c ≠ 0) : PayAt w B ga cap l c (.returned (.iface 94 (.agg #[.int .i64 c]))) w' :=
  ⟨by unfold errV; rw [if_neg hc], h.same (hb.block ga h.lt), grown_of_below hb _⟩

set_option maxHeartbeats 1000000 in
theorem pay_arg (h : Own w B 39 2 ga cap l.length (pairCells l)) (p : Lg.Pay) (hc : Lg.isAcc l p.src = false ∨ Lg.isAcc l p.dst = false ∨ p.n < 1) :
    Calls Tryd.prog 29 #[.slice (some ⟨ga, 0, none⟩) l.length cap, payV p] w (PayAt w B ga cap l 2) := by
  obtain ⟨src, dst, ser, n⟩ := p
  simp only at hc
  have H := Lib.hid h
  clear h
  unfold payV
  simp only
  by_cases h1 : Lg.isAcc l src = false
  · have i1 := Lib.hid h1
    clear hc h1
    go_enter Tryd.func29, Tryd.ntmps29
    go_wp2_with fail
    refine (is_calls _ w.heap.size (some ⟨ga, 0, none⟩) l.length cap _ false i1.out ?_).mono ?_
    · exact (World.cell?_alloc_past _ _ _ (by simp)).trans (World.cell?_alloc_new _ _ _ _)
    rintro e w' ⟨rfl, rfl⟩
    go_wp2_with (go_at_call 42; refine (refuse_calls _ 2).mono ?_; rintro e w' ⟨rfl, rfl⟩)
    go_ret
    exact refused H.out (((Below.refl _ w).alloc (Nat.le_refl _) _).alloc (by simp) _) (by omega)
  · have i1 := Lib.hid (show Lg.isAcc l src = true by simpa using h1)
    by_cases h2 : Lg.isAcc l dst = false
    · have i2 := Lib.hid h2
      clear hc h1 h2
      go_enter Tryd.func29, Tryd.ntmps29
      go_wp2_with fail
      refine (is_calls _ w.heap.size (some ⟨ga, 0, none⟩) l.length cap _ true i1.out ?_).mono ?_
      · exact (World.cell?_alloc_past _ _ _ (by simp)).trans (World.cell?_alloc_new _ _ _ _)
      rintro e w' ⟨rfl, rfl⟩
      go_wp2_with fail
      refine (is_calls _ w.heap.size (some ⟨ga, 0, none⟩) l.length cap _ false i2.out ?_).mono ?_
      · exact (World.cell?_alloc_past _ _ _ (by simp)).trans (World.cell?_alloc_new _ _ _ _)
      rintro e w' ⟨rfl, rfl⟩
      go_wp2_with (go_at_call 42; refine (refuse_calls _ 2).mono ?_; rintro e w' ⟨rfl, rfl⟩)
      go_ret
      exact refused H.out (((Below.refl _ w).alloc (Nat.le_refl _) _).alloc (by simp) _) (by omega)
    · have i2 := Lib.hid (show Lg.isAcc l dst = true by simpa using h2)
      have h3 : n < 1 := by
        rcases hc with hc | hc | hc
        · exact absurd hc h1
        · exact absurd hc h2
        · exact hc
      clear hc h1 h2
      go_enter Tryd.func29, Tryd.ntmps29
      go_wp2_with fail
      refine (is_calls _ w.heap.size (some ⟨ga, 0, none⟩) l.length cap _ true i1.out ?_).mono ?_
      · exact (World.cell?_alloc_past _ _ _ (by simp)).trans (World.cell?_alloc_new _ _ _ _)
      rintro e w' ⟨rfl, rfl⟩
      go_wp2_with fail
      refine (is_calls _ w.heap.size (some ⟨ga, 0, none⟩) l.length cap _ true i2.out ?_).mono ?_
      · exact (World.cell?_alloc_past _ _ _ (by simp)).trans (World.cell?_alloc_new _ _ _ _)
      rintro e w' ⟨rfl, rfl⟩
      go_wp2_with (go_at_call 42; refine (refuse_calls _ 2).mono ?_; rintro e w' ⟨rfl, rfl⟩)
      go_ret
      exact refused H.out (((Below.refl _ w).alloc (Nat.le_refl _) _).alloc (by simp) _) (by omega)

set_option maxHeartbeats 1000000 in
theorem pay_form (h : Own w B 39 2 ga cap l.length (pairCells l)) (hl : l.length ≤ 12) (hk : k ≤ 60) (a b : Nat) (ser n s1 n1 n2 : Int) (ha : a < l.length) (hb : b < l.length) (hn : 1 ≤ n)
    (ca0 : w.cell? ⟨ga, a * 2, none⟩ = some (.int .i64 n1)) (ca1 : w.cell? ⟨ga, a * 2 + 1, none⟩ = some (.int .i64 s1)) (cb0 : w.cell? ⟨ga, b * 2, none⟩ = some (.int .i64 n2))
    (na0 : 0 ≤ n1) (na1 : n1 ≤ 1099511627776) (nb0 : 0 ≤ n2) (nb1 : n2 ≤ 1099511627776) (sa0 : 0 ≤ s1) (sa1 : s1 ≤ k)
    (h3 : ser ≠ s1) : Calls Tryd.prog 29 #[.slice (some ⟨ga, 0, none⟩) l.length cap, payV ⟨a, b, ser, n⟩] w (PayAt w B ga cap l 3) := by
  have i1 : Hid ((decide ((0 : Int) ≤ (a : Int)) && decide ((a : Int) < (l.length : Int))) = true) := Lib.hid (by simp; omega)
  have i2 : Hid ((decide ((0 : Int) ≤ (b : Int)) && decide ((b : Int) < (l.length : Int))) = true) := Lib.hid (by simp; omega)
  have ga0 := h.lt
  have fa0 := h.frozenAt (a * 2)
  have fa1 := h.frozenAt (a * 2 + 1)
  have fb0 := h.frozenAt (b * 2)
  have H := Lib.hid h
  clear h
  unfold payV
  simp only
  have h3' : (ser != s1) = true := by simpa using h3
  go_enter Tryd.func29, Tryd.ntmps29
  go_wp2_with fail
  refine (is_calls _ w.heap.size (some ⟨ga, 0, none⟩) l.length cap _ true i1.out ?_).mono ?_
  · exact (World.cell?_alloc_past _ _ _ (by simp)).trans (World.cell?_alloc_new _ _ _ _)
  rintro e w' ⟨rfl, rfl⟩
  go_wp2_with fail
  refine (is_calls _ w.heap.size (some ⟨ga, 0, none⟩) l.length cap _ true i2.out ?_).mono ?_
  · exact (World.cell?_alloc_past _ _ _ (by simp)).trans (World.cell?_alloc_new _ _ _ _)
  rintro e w' ⟨rfl, rfl⟩
  have hb2 := Lib.hid (((Below.refl w.heap.size w).alloc (Nat.le_refl _) (.cells #[.slice (some ⟨ga, 0, none⟩) l.length cap] 32)).alloc (by simp) (.cells #[.int .i64 a, .int .i64 b, .int .i64 ser, .int .i64 n] 41))
  have hq2 := (Blk.new w 32 #[.slice (some ⟨ga, 0, none⟩) l.length cap]).alloc (.cells #[.int .i64 a, .int .i64 b, .int .i64 ser, .int .i64 n] 41)
  have hp2 := Blk.new (w.alloc (.cells #[.slice (some ⟨ga, 0, none⟩) l.length cap] 32)) 41 #[.int .i64 a, .int .i64 b, .int .i64 ser, .int .i64 n]
  rw [World.size_alloc] at hp2
  generalize (w.alloc (.cells #[.slice (some ⟨ga, 0, none⟩) l.length cap] 32)).alloc (.cells #[.int .i64 a, .int .i64 b, .int .i64 ser, .int .i64 n] 41) = W2 at hb2 hq2 hp2 ⊢
  have q0 := hq2.cell 0
  have p0 := hp2.cell 0
  have p1 := hp2.cell 1
  have p2 := hp2.cell 2
  have p3 := hp2.cell 3
  have lp := hp2.lt
  simp only [List.getElem?_toArray, List.getElem?_cons_zero, List.getElem?_cons_succ] at q0 p0 p1 p2 p3
  have da0 := (hb2.out.cell (p := ⟨ga, a * 2, none⟩) ga0).trans ca0
  have da1 := (hb2.out.cell (p := ⟨ga, a * 2 + 1, none⟩) ga0).trans ca1
  have ea0 := (hb2.out.frozen (p := ⟨ga, a * 2, none⟩) ga0).trans fa0
  have ea1 := (hb2.out.frozen (p := ⟨ga, a * 2 + 1, none⟩) ga0).trans fa1
  clear ca0 ca1 fa0 fa1
  have db0 := (hb2.out.cell (p := ⟨ga, b * 2, none⟩) ga0).trans cb0
  have eb0 := (hb2.out.frozen (p := ⟨ga, b * 2, none⟩) ga0).trans fb0
  clear cb0 fb0
  have lga : ga < W2.heap.size := Nat.lt_of_lt_of_le ga0 hb2.out.size
  have hQ2 := Lib.hid hq2
  have hP2 := Lib.hid hp2
  clear hq2 hp2
  go_wp2_with fail
  go_quiet (fail)
  go_wp2_with fail
  go_quiet (fail)
  go_wp2_with (go_at_call 42; refine (refuse_calls _ 3).mono ?_; rintro e w' ⟨rfl, rfl⟩)
  go_ret
  exact refused H.out (by first | exact hb2.out | exact below_drewN hb2.out _) (by omega)

set_option maxHeartbeats 1000000 in
theorem pay_none (h : Own w B 39 2 ga cap l.length (pairCells l)) (hl : l.length ≤ 12) (hk : k ≤ 60) (a b : Nat) (ser n s1 n1 n2 : Int) (ha : a < l.length) (hb : b < l.length) (hn : 1 ≤ n)
    (ca0 : w.cell? ⟨ga, a * 2, none⟩ = some (.int .i64 n1)) (ca1 : w.cell? ⟨ga, a * 2 + 1, none⟩ = some (.int .i64 s1)) (cb0 : w.cell? ⟨ga, b * 2, none⟩ = some (.int .i64 n2))
    (na0 : 0 ≤ n1) (na1 : n1 ≤ 1099511627776) (nb0 : 0 ≤ n2) (nb1 : n2 ≤ 1099511627776) (sa0 : 0 ≤ s1) (sa1 : s1 ≤ k)
    (h3 : ser = s1) (h5 : n1 < n) : Calls Tryd.prog 29 #[.slice (some ⟨ga, 0, none⟩) l.length cap, payV ⟨a, b, ser, n⟩] w (PayAt w B ga cap l 5) := by
  have i1 : Hid ((decide ((0 : Int) ≤ (a : Int)) && decide ((a : Int) < (l.length : Int))) = true) := Lib.hid (by simp; omega)
  have i2 : Hid ((decide ((0 : Int) ≤ (b : Int)) && decide ((b : Int) < (l.length : Int))) = true) := Lib.hid (by simp; omega)
  have ga0 := h.lt
  have fa0 := h.frozenAt (a * 2)
  have fa1 := h.frozenAt (a * 2 + 1)
  have fb0 := h.frozenAt (b * 2)
  have H := Lib.hid h
  clear h
  unfold payV
  simp only
  subst h3
  have h3' : (ser != ser) = false := by simp
  have h5' : decide (n1 < n) = true := by simpa using h5
  go_enter Tryd.func29, Tryd.ntmps29
  go_wp2_with fail
  refine (is_calls _ w.heap.size (some ⟨ga, 0, none⟩) l.length cap _ true i1.out ?_).mono ?_
  · exact (World.cell?_alloc_past _ _ _ (by simp)).trans (World.cell?_alloc_new _ _ _ _)
  rintro e w' ⟨rfl, rfl⟩
  go_wp2_with fail
  refine (is_calls _ w.heap.size (some ⟨ga, 0, none⟩) l.length cap _ true i2.out ?_).mono ?_
  · exact (World.cell?_alloc_past _ _ _ (by simp)).trans (World.cell?_alloc_new _ _ _ _)
  rintro e w' ⟨rfl, rfl⟩
  have hb2 := Lib.hid (((Below.refl w.heap.size w).alloc (Nat.le_refl _) (.cells #[.slice (some ⟨ga, 0, none⟩) l.length cap] 32)).alloc (by simp) (.cells #[.int .i64 a, .int .i64 b, .int .i64 ser, .int .i64 n] 41))
  have hq2 := (Blk.new w 32 #[.slice (some ⟨ga, 0, none⟩) l.length cap]).alloc (.cells #[.int .i64 a, .int .i64 b, .int .i64 ser, .int .i64 n] 41)
  have hp2 := Blk.new (w.alloc (.cells #[.slice (some ⟨ga, 0, none⟩) l.length cap] 32)) 41 #[.int .i64 a, .int .i64 b, .int .i64 ser, .int .i64 n]
  rw [World.size_alloc] at hp2
  generalize (w.alloc (.cells #[.slice (some ⟨ga, 0, none⟩) l.length cap] 32)).alloc (.cells #[.int .i64 a, .int .i64 b, .int .i64 ser, .int .i64 n] 41) = W2 at hb2 hq2 hp2 ⊢
  have q0 := hq2.cell 0
  have p0 := hp2.cell 0
  have p1 := hp2.cell 1
  have p2 := hp2.cell 2
  have p3 := hp2.cell 3
  have lp := hp2.lt
  simp only [List.getElem?_toArray, List.getElem?_cons_zero, List.getElem?_cons_succ] at q0 p0 p1 p2 p3
  have da0 := (hb2.out.cell (p := ⟨ga, a * 2, none⟩) ga0).trans ca0
  have da1 := (hb2.out.cell (p := ⟨ga, a * 2 + 1, none⟩) ga0).trans ca1
  have ea0 := (hb2.out.frozen (p := ⟨ga, a * 2, none⟩) ga0).trans fa0
  have ea1 := (hb2.out.frozen (p := ⟨ga, a * 2 + 1, none⟩) ga0).trans fa1
  clear ca0 ca1 fa0 fa1
  have db0 := (hb2.out.cell (p := ⟨ga, b * 2, none⟩) ga0).trans cb0
  have eb0 := (hb2.out.frozen (p := ⟨ga, b * 2, none⟩) ga0).trans fb0
  clear cb0 fb0
  have lga : ga < W2.heap.size := Nat.lt_of_lt_of_le ga0 hb2.out.size
  have hQ2 := Lib.hid hq2
  have hP2 := Lib.hid hp2
  clear hq2 hp2
  go_wp2_with fail
  go_quiet (fail)
  go_wp2_with fail
  go_quiet (fail)
  go_wp2_with fail
  go_quiet (fail)
  go_wp2_with (go_at_call 42; refine (refuse_calls _ 5).mono ?_; rintro e w' ⟨rfl, rfl⟩)
  go_ret
  exact refused H.out (by first | exact hb2.out | exact below_drewN hb2.out _) (by omega)

set_option maxHeartbeats 1000000 in
theorem pay_full (h : Own w B 39 2 ga cap l.length (pairCells l)) (hl : l.length ≤ 12) (hk : k ≤ 60) (a b : Nat) (ser n s1 n1 n2 : Int) (ha : a < l.length) (hb : b < l.length) (hn : 1 ≤ n)
    (ca0 : w.cell? ⟨ga, a * 2, none⟩ = some (.int .i64 n1)) (ca1 : w.cell? ⟨ga, a * 2 + 1, none⟩ = some (.int .i64 s1)) (cb0 : w.cell? ⟨ga, b * 2, none⟩ = some (.int .i64 n2))
    (na0 : 0 ≤ n1) (na1 : n1 ≤ 1099511627776) (nb0 : 0 ≤ n2) (nb1 : n2 ≤ 1099511627776) (sa0 : 0 ≤ s1) (sa1 : s1 ≤ k)
    (h3 : ser = s1) (h5 : n ≤ n1) (hab : a ≠ b) (h7 : 1099511627776 - n < n2) : Calls Tryd.prog 29 #[.slice (some ⟨ga, 0, none⟩) l.length cap, payV ⟨a, b, ser, n⟩] w (PayAt w B ga cap l 7) := by
  have i1 : Hid ((decide ((0 : Int) ≤ (a : Int)) && decide ((a : Int) < (l.length : Int))) = true) := Lib.hid (by simp; omega)
  have i2 : Hid ((decide ((0 : Int) ≤ (b : Int)) && decide ((b : Int) < (l.length : Int))) = true) := Lib.hid (by simp; omega)
  have ga0 := h.lt
  have fa0 := h.frozenAt (a * 2)
  have fa1 := h.frozenAt (a * 2 + 1)
  have fb0 := h.frozenAt (b * 2)
  have H := Lib.hid h
  clear h
  unfold payV
  simp only
  subst h3
  have h3' : (ser != ser) = false := by simp
  have h5' : decide (n1 < n) = false := by simp; omega
  have h7' : decide (1099511627776 - n < n2) = true := by simpa using h7
  have hne : a * 2 ≠ b * 2 := by omega
  go_enter Tryd.func29, Tryd.ntmps29
  go_wp2_with fail
  refine (is_calls _ w.heap.size (some ⟨ga, 0, none⟩) l.length cap _ true i1.out ?_).mono ?_
  · exact (World.cell?_alloc_past _ _ _ (by simp)).trans (World.cell?_alloc_new _ _ _ _)
  rintro e w' ⟨rfl, rfl⟩
  go_wp2_with fail
  refine (is_calls _ w.heap.size (some ⟨ga, 0, none⟩) l.length cap _ true i2.out ?_).mono ?_
  · exact (World.cell?_alloc_past _ _ _ (by simp)).trans (World.cell?_alloc_new _ _ _ _)
  rintro e w' ⟨rfl, rfl⟩
  have hb2 := Lib.hid (((Below.refl w.heap.size w).alloc (Nat.le_refl _) (.cells #[.slice (some ⟨ga, 0, none⟩) l.length cap] 32)).alloc (by simp) (.cells #[.int .i64 a, .int .i64 b, .int .i64 ser, .int .i64 n] 41))
  have hq2 := (Blk.new w 32 #[.slice (some ⟨ga, 0, none⟩) l.length cap]).alloc (.cells #[.int .i64 a, .int .i64 b, .int .i64 ser, .int .i64 n] 41)
  have hp2 := Blk.new (w.alloc (.cells #[.slice (some ⟨ga, 0, none⟩) l.length cap] 32)) 41 #[.int .i64 a, .int .i64 b, .int .i64 ser, .int .i64 n]
  rw [World.size_alloc] at hp2
  generalize (w.alloc (.cells #[.slice (some ⟨ga, 0, none⟩) l.length cap] 32)).alloc (.cells #[.int .i64 a, .int .i64 b, .int .i64 ser, .int .i64 n] 41) = W2 at hb2 hq2 hp2 ⊢
  have q0 := hq2.cell 0
  have p0 := hp2.cell 0
  have p1 := hp2.cell 1
  have p2 := hp2.cell 2
  have p3 := hp2.cell 3
  have lp := hp2.lt
  simp only [List.getElem?_toArray, List.getElem?_cons_zero, List.getElem?_cons_succ] at q0 p0 p1 p2 p3
  have da0 := (hb2.out.cell (p := ⟨ga, a * 2, none⟩) ga0).trans ca0
  have da1 := (hb2.out.cell (p := ⟨ga, a * 2 + 1, none⟩) ga0).trans ca1
  have ea0 := (hb2.out.frozen (p := ⟨ga, a * 2, none⟩) ga0).trans fa0
  have ea1 := (hb2.out.frozen (p := ⟨ga, a * 2 + 1, none⟩) ga0).trans fa1
  clear ca0 ca1 fa0 fa1
  have db0 := (hb2.out.cell (p := ⟨ga, b * 2, none⟩) ga0).trans cb0
  have eb0 := (hb2.out.frozen (p := ⟨ga, b * 2, none⟩) ga0).trans fb0
  clear cb0 fb0
  have lga : ga < W2.heap.size := Nat.lt_of_lt_of_le ga0 hb2.out.size
  have hQ2 := Lib.hid hq2
  have hP2 := Lib.hid hp2
  clear hq2 hp2
  obtain ⟨cur, hcur, _⟩ := (H.out.same (hb2.out.block ga ga0)).blk
  have hp1 := fun n1 => neq_acc (w := W2.drewN n1) hcur a b hab
  have hp3 := fun n1 n2 n3 => neq_acc (w := ((W2.drewN n1).drewN n2).drewN n3) hcur a b hab
  have hp4 := fun n1 n2 n3 n4 => neq_acc (w := (((W2.drewN n1).drewN n2).drewN n3).drewN n4) hcur a b hab
  go_wp2_with fail
  go_quiet (fail)
  go_wp2_with fail
  go_quiet (fail)
  go_wp2_with fail
  go_quiet (fail)
  go_wp2_with fail
  go_quiet (fail)
  go_wp2_with (go_at_call 42; refine (refuse_calls _ 7).mono ?_; rintro e w' ⟨rfl, rfl⟩)
  go_ret
  exact refused H.out (by first | exact hb2.out | exact below_drewN hb2.out _) (by omega)

end
end Go.Proofs.YtkcekjpohpenkaaDoor
