import Derived.Test.YtkcekjpohpenkaaDoorPay
/- The ledger's walks: a pay that is made. -/
set_option linter.unusedVariables false
set_option linter.unusedSimpArgs false
set_option maxRecDepth 100000
namespace Go.Proofs.YtkcekjpohpenkaaDoor
open Go.RowKit Mo

section
variable {w : World} {B ga cap k : Nat} {l : List Lg.Acc}

/-- the accounts behind the three stores -/
theorem made_own {W1 W2 W3 W4 : World} {l : List Lg.Acc} {B ga cap a b : Nat} {n x y z : Int} (h : Own W1 B 39 2 ga cap l.length (pairCells l)) (ha : a < l.length) (hb : b < l.length)
    (e2 : W2.heap = (W1.setCell ⟨ga, a * 2, none⟩ (.int .i64 x)).heap) (e3 : W3.heap = (W2.setCell ⟨ga, b * 2, none⟩ (.int .i64 y)).heap) (e4 : W4.heap = (W3.setCell ⟨ga, a * 2 + 1, none⟩ (.int .i64 z)).heap)
    (hx : x = (l.getD a (0, 0)).1 - n) (hy : y = (if a = b then x else (l.getD b (0, 0)).1) + n) (hz : z = (l.getD a (0, 0)).2 + 1) : Own W4 B 39 2 ga cap l.length (pairCells (Lg.moved l a b n)) := by
  have h1 := (h.stored (a * 2) (.int .i64 x)).1
  rw [pairCells_set_fst l a x ha] at h1
  have h2 := Own.same (w' := W2) h1 (by rw [e2])
  have h3 := (h2.stored (b * 2) (.int .i64 y)).1
  rw [pairCells_set_fst _ b y (by simpa using hb)] at h3
  have h4 := Own.same (w' := W3) h3 (by rw [e3])
  have h5 := (h4.stored (a * 2 + 1) (.int .i64 z)).1
  rw [pairCells_set_snd _ a z (by simpa using ha)] at h5
  have h6 := Own.same (w' := W4) h5 (by rw [e4])
  have e : Lg.moved l a b n = ((l.set a (x, (l.getD a (0, 0)).2)).set b (y, ((l.set a (x, (l.getD a (0, 0)).2)).getD b (0, 0)).2)).set a ((((l.set a (x, (l.getD a (0, 0)).2)).set b (y, ((l.set a (x, (l.getD a (0, 0)).2)).getD b (0, 0)).2)).getD a (0, 0)).1, z) := by
    have hyy : y = ((l.set a (x, (l.getD a (0, 0)).2)).getD b (0, 0)).1 + n := by
      rw [Lg.getD_set b ha, hy]
      split <;> rfl
    have hzz : z = (((l.set a (x, (l.getD a (0, 0)).2)).set b (y, ((l.set a (x, (l.getD a (0, 0)).2)).getD b (0, 0)).2)).getD a (0, 0)).2 + 1 := by
      rw [Lg.getD_set a (by simpa using hb), Lg.getD_set a ha, Lg.getD_set b ha, hz]
      by_cases hab : b = a
      · subst hab; simp
      · simp [hab]
    conv => rhs; rw [hzz]
    unfold Lg.moved
    simp only
    rw [← hx, ← hyy]
  rw [e]
  exact h6

theorem made_grown {w W1 W2 W3 W4 : World} {ga : Nat} {a1 a2 a3 : Nat} {v1 v2 v3 : Value} (h : w.grownBy W1 (some ga))
    (e2 : W2 = W1.setCell ⟨ga, a1, none⟩ v1) (e3 : W3 = (W2.setCell ⟨ga, a2, none⟩ v2).drew) (e4 : W4 = W3.setCell ⟨ga, a3, none⟩ v3) : w.grownBy W4 (some ga) := by
  subst e2 e3 e4
  have one : ∀ (W : World) (j : Nat) (v : Value), w.grownBy W (some ga) → w.grownBy (W.setCell ⟨ga, j, none⟩ v) (some ga) := fun W j v h =>
    ⟨h.os, h.tape, h.output, by simpa [World.setCell] using h.size, fun i hi hne => (Below.heap_setCell W _ v i (by rintro rfl; exact hne rfl)).trans (h.block i hi hne)⟩
  have dr : ∀ (W : World), w.grownBy W (some ga) → w.grownBy W.drew (some ga) := fun W h => ⟨h.os, h.tape, h.output, h.size, h.block⟩
  exact one _ _ _ (dr _ (one _ _ _ (one _ _ _ h)))


set_option maxHeartbeats 2000000 in
theorem pay_made (h : Own w B 39 2 ga cap l.length (pairCells l)) (hl : l.length ≤ 12) (hk : k ≤ 60) (a b : Nat) (ser n s1 n1 n2 : Int) (ha : a < l.length) (hb : b < l.length) (hn : 1 ≤ n)
    (ca0 : w.cell? ⟨ga, a * 2, none⟩ = some (.int .i64 n1)) (ca1 : w.cell? ⟨ga, a * 2 + 1, none⟩ = some (.int .i64 s1)) (cb0 : w.cell? ⟨ga, b * 2, none⟩ = some (.int .i64 n2))
    (na0 : 0 ≤ n1) (na1 : n1 ≤ 1099511627776) (nb0 : 0 ≤ n2) (nb1 : n2 ≤ 1099511627776) (sa0 : 0 ≤ s1) (sa1 : s1 ≤ k)
    (hs : (l.getD a (0, 0)).2 = s1 ∧ (l.getD a (0, 0)).1 = n1 ∧ (l.getD b (0, 0)).1 = n2) (h3 : ser = s1) (h5 : n ≤ n1) (hab : a ≠ b) (h7 : n2 ≤ 1099511627776 - n) : Calls Tryd.prog 29 #[.slice (some ⟨ga, 0, none⟩) l.length cap, payV ⟨a, b, ser, n⟩] w (PayAt w B ga cap (Lg.moved l a b n) 0) := by
  have HS := Lib.hid hs
  clear hs
  have i1 : Hid ((decide ((0 : Int) ≤ (a : Int)) && decide ((a : Int) < (l.length : Int))) = true) := Lib.hid (by simp; omega)
  have i2 : Hid ((decide ((0 : Int) ≤ (b : Int)) && decide ((b : Int) < (l.length : Int))) = true) := Lib.hid (by simp; omega)
  have ga0 := h.lt
  have fa0 := h.frozenAt (a * 2)
  have fa1 := h.frozenAt (a * 2 + 1)
  have fb0 := h.frozenAt (b * 2)
  have H := Lib.hid h
  clear h
  unfold payV
  simp only
  subst h3
  have h3' : (ser != ser) = false := by simp
  have h5' : decide (n1 < n) = false := by simp; omega
  have h7' : decide (1099511627776 - n < n2) = false := by simp; omega
  have hne : a * 2 ≠ b * 2 := by omega
  have hne2 : b * 2 ≠ a * 2 := by omega
  go_enter Tryd.func29, Tryd.ntmps29
  go_wp2_with fail
  refine (is_calls _ w.heap.size (some ⟨ga, 0, none⟩) l.length cap _ true i1.out ?_).mono ?_
  · exact (World.cell?_alloc_past _ _ _ (by simp)).trans (World.cell?_alloc_new _ _ _ _)
  rintro e w' ⟨rfl, rfl⟩
  go_wp2_with fail
  refine (is_calls _ w.heap.size (some ⟨ga, 0, none⟩) l.length cap _ true i2.out ?_).mono ?_
  · exact (World.cell?_alloc_past _ _ _ (by simp)).trans (World.cell?_alloc_new _ _ _ _)
  rintro e w' ⟨rfl, rfl⟩
  have hb2 := Lib.hid (((Below.refl w.heap.size w).alloc (Nat.le_refl _) (.cells #[.slice (some ⟨ga, 0, none⟩) l.length cap] 32)).alloc (by simp) (.cells #[.int .i64 a, .int .i64 b, .int .i64 ser, .int .i64 n] 41))
  have hq2 := (Blk.new w 32 #[.slice (some ⟨ga, 0, none⟩) l.length cap]).alloc (.cells #[.int .i64 a, .int .i64 b, .int .i64 ser, .int .i64 n] 41)
  have hp2 := Blk.new (w.alloc (.cells #[.slice (some ⟨ga, 0, none⟩) l.length cap] 32)) 41 #[.int .i64 a, .int .i64 b, .int .i64 ser, .int .i64 n]
  rw [World.size_alloc] at hp2
  generalize (w.alloc (.cells #[.slice (some ⟨ga, 0, none⟩) l.length cap] 32)).alloc (.cells #[.int .i64 a, .int .i64 b, .int .i64 ser, .int .i64 n] 41) = W2 at hb2 hq2 hp2 ⊢
  have q0 := hq2.cell 0
  have p0 := hp2.cell 0
  have p1 := hp2.cell 1
  have p2 := hp2.cell 2
  have p3 := hp2.cell 3
  have lp := hp2.lt
  simp only [List.getElem?_toArray, List.getElem?_cons_zero, List.getElem?_cons_succ] at q0 p0 p1 p2 p3
  have da0 := (hb2.out.cell (p := ⟨ga, a * 2, none⟩) ga0).trans ca0
  have da1 := (hb2.out.cell (p := ⟨ga, a * 2 + 1, none⟩) ga0).trans ca1
  have ea0 := (hb2.out.frozen (p := ⟨ga, a * 2, none⟩) ga0).trans fa0
  have ea1 := (hb2.out.frozen (p := ⟨ga, a * 2 + 1, none⟩) ga0).trans fa1
  clear ca0 ca1 fa0 fa1
  have db0 := (hb2.out.cell (p := ⟨ga, b * 2, none⟩) ga0).trans cb0
  have eb0 := (hb2.out.frozen (p := ⟨ga, b * 2, none⟩) ga0).trans fb0
  clear cb0 fb0
  have lga : ga < W2.heap.size := Nat.lt_of_lt_of_le ga0 hb2.out.size
  have hQ2 := Lib.hid hq2
  have hP2 := Lib.hid hp2
  clear hq2 hp2
  obtain ⟨cur, hcur, _⟩ := (H.out.same (hb2.out.block ga ga0)).blk
  have hp1 := fun n1 => neq_acc (w := W2.drewN n1) hcur a b hab
  have hp3 := fun n1 n2 n3 => neq_acc (w := ((W2.drewN n1).drewN n2).drewN n3) hcur a b hab
  have hp4 := fun n1 n2 n3 n4 => neq_acc (w := (((W2.drewN n1).drewN n2).drewN n3).drewN n4) hcur a b hab
  go_wp2_with fail
  go_quiet (fail)
  revert nq
  intro m1
  go_wp2_with fail
  go_quiet (fail)
  revert nq
  intro m2
  go_wp2_with fail
  go_quiet (fail)
  revert nq
  intro m3
  go_wp2_with fail
  go_quiet (fail)
  revert nq
  intro m4
  go_wp2_with fail
  go_region
  generalize m1 + m2 + m3 + m4 + 1 = m
  have hB3 := below_drewN hb2.out m
  have hO3 : Own (W2.drewN m) B 39 2 ga cap l.length (pairCells l) := H.out.same (hB3.block ga ga0)
  have z1 : ((W2.drewN m).setCell ⟨ga, a * 2, none⟩ (.int .i64 (n1 - n))).cell? ⟨ga, b * 2, none⟩ = some (.int .i64 (n2)) := (World.cell?_setCell_other _ _ _ _ (by simp <;> omega)).trans db0
  have z2 : ((W2.drewN m).setCell ⟨ga, a * 2, none⟩ (.int .i64 (n1 - n))).cell? ⟨ga, a * 2 + 1, none⟩ = some (.int .i64 ser) := (World.cell?_setCell_other _ _ _ _ (by simp)).trans da1
  have z3 : ((W2.drewN m).setCell ⟨ga, a * 2, none⟩ (.int .i64 (n1 - n))).cell? ⟨w.heap.size + 1, 3, none⟩ = some (.int .i64 n) := (World.cell?_setCell_other _ _ _ _ (by simp <;> omega)).trans p3
  have y1 : ((W2.drewN m).setCell ⟨ga, a * 2, none⟩ (.int .i64 (n1 - n))).frozen? ⟨ga, b * 2, none⟩ = false := (World.frozen?_setCell _ _ _ _).trans eb0
  have y2 : ((W2.drewN m).setCell ⟨ga, a * 2, none⟩ (.int .i64 (n1 - n))).frozen? ⟨ga, a * 2 + 1, none⟩ = false := (World.frozen?_setCell _ _ _ _).trans ea1
  have lW : ((W2.drewN m).setCell ⟨ga, a * 2, none⟩ (.int .i64 (n1 - n))).heap.size = W2.heap.size := by simp [World.setCell, World.drewN]
  have HB := Lib.hid (And.intro hB3 hO3)
  clear hB3 hO3 q0 p0 p1 p2 p3 da0 da1 ea0 ea1 hp1 hp3 hp4 db0 eb0 hcur
  generalize hW3 : (W2.drewN m).setCell ⟨ga, a * 2, none⟩ (.int .i64 (n1 - n)) = W3 at z1 z2 z3 y1 y2 lW ⊢
  have HW3 := Lib.hid hW3
  clear hW3
  go_wp2_with fail
  go_region
  have x2 : ((W3.setCell ⟨ga, b * 2, none⟩ (.int .i64 (n2 + n))).drew).cell? ⟨ga, a * 2 + 1, none⟩ = some (.int .i64 ser) := (World.cell?_setCell_other _ _ _ _ (by simp <;> omega)).trans z2
  have x3 : ((W3.setCell ⟨ga, b * 2, none⟩ (.int .i64 (n2 + n))).drew).frozen? ⟨ga, a * 2 + 1, none⟩ = false := (World.frozen?_setCell _ _ _ _).trans y2
  have lX : ((W3.setCell ⟨ga, b * 2, none⟩ (.int .i64 (n2 + n))).drew).heap.size = W2.heap.size := by rw [← lW]; simp [World.setCell]
  clear z1 z2 z3 y1 y2 lW
  generalize hW4 : (W3.setCell ⟨ga, b * 2, none⟩ (.int .i64 (n2 + n))).drew = W4 at x2 x3 lX ⊢
  have HW4 := Lib.hid hW4
  clear hW4
  go_wp2_with fail
  go_ret
  exact ⟨rfl, by rw [Lg.moved_length]; exact made_own HB.out.2 ha hb (by rw [HW3.out]) (show W4.heap = _ by rw [← HW4.out]; rfl) rfl (by rw [HS.out.2.1]) (by rw [if_neg hab, HS.out.2.2]) (by rw [HS.out.1]), made_grown (W1 := W2.drewN m) (grown_of_below HB.out.1 _) (W2 := W3) HW3.out.symm HW4.out.symm rfl⟩

set_option maxHeartbeats 2000000 in
theorem pay_self (h : Own w B 39 2 ga cap l.length (pairCells l)) (hl : l.length ≤ 12) (hk : k ≤ 60) (a : Nat) (ser n s1 n1 : Int) (ha : a < l.length) (hn : 1 ≤ n)
    (ca0 : w.cell? ⟨ga, a * 2, none⟩ = some (.int .i64 n1)) (ca1 : w.cell? ⟨ga, a * 2 + 1, none⟩ = some (.int .i64 s1))
    (na0 : 0 ≤ n1) (na1 : n1 ≤ 1099511627776) (sa0 : 0 ≤ s1) (sa1 : s1 ≤ k)
    (hs : (l.getD a (0, 0)).2 = s1 ∧ (l.getD a (0, 0)).1 = n1) (h3 : ser = s1) (h5 : n ≤ n1) : Calls Tryd.prog 29 #[.slice (some ⟨ga, 0, none⟩) l.length cap, payV ⟨a, a, ser, n⟩] w (PayAt w B ga cap (Lg.moved l a a n) 0) := by
  have HS := Lib.hid hs
  clear hs
  have i1 : Hid ((decide ((0 : Int) ≤ (a : Int)) && decide ((a : Int) < (l.length : Int))) = true) := Lib.hid (by simp; omega)
  have i2 : Hid ((decide ((0 : Int) ≤ (a : Int)) && decide ((a : Int) < (l.length : Int))) = true) := Lib.hid (by simp; omega)
  have ga0 := h.lt
  have fa0 := h.frozenAt (a * 2)
  have fa1 := h.frozenAt (a * 2 + 1)
  have H := Lib.hid h
  clear h
  unfold payV
  simp only
  subst h3
  have h3' : (ser != ser) = false := by simp
  have h5' : decide (n1 < n) = false := by simp; omega
  go_enter Tryd.func29, Tryd.ntmps29
  go_wp2_with fail
  refine (is_calls _ w.heap.size (some ⟨ga, 0, none⟩) l.length cap _ true i1.out ?_).mono ?_
  · exact (World.cell?_alloc_past _ _ _ (by simp)).trans (World.cell?_alloc_new _ _ _ _)
  rintro e w' ⟨rfl, rfl⟩
  go_wp2_with fail
  refine (is_calls _ w.heap.size (some ⟨ga, 0, none⟩) l.length cap _ true i2.out ?_).mono ?_
  · exact (World.cell?_alloc_past _ _ _ (by simp)).trans (World.cell?_alloc_new _ _ _ _)
  rintro e w' ⟨rfl, rfl⟩
  have hb2 := Lib.hid (((Below.refl w.heap.size w).alloc (Nat.le_refl _) (.cells #[.slice (some ⟨ga, 0, none⟩) l.length cap] 32)).alloc (by simp) (.cells #[.int .i64 a, .int .i64 a, .int .i64 ser, .int .i64 n] 41))
  have hq2 := (Blk.new w 32 #[.slice (some ⟨ga, 0, none⟩) l.length cap]).alloc (.cells #[.int .i64 a, .int .i64 a, .int .i64 ser, .int .i64 n] 41)
  have hp2 := Blk.new (w.alloc (.cells #[.slice (some ⟨ga, 0, none⟩) l.length cap] 32)) 41 #[.int .i64 a, .int .i64 a, .int .i64 ser, .int .i64 n]
  rw [World.size_alloc] at hp2
  generalize (w.alloc (.cells #[.slice (some ⟨ga, 0, none⟩) l.length cap] 32)).alloc (.cells #[.int .i64 a, .int .i64 a, .int .i64 ser, .int .i64 n] 41) = W2 at hb2 hq2 hp2 ⊢
  have q0 := hq2.cell 0
  have p0 := hp2.cell 0
  have p1 := hp2.cell 1
  have p2 := hp2.cell 2
  have p3 := hp2.cell 3
  have lp := hp2.lt
  simp only [List.getElem?_toArray, List.getElem?_cons_zero, List.getElem?_cons_succ] at q0 p0 p1 p2 p3
  have da0 := (hb2.out.cell (p := ⟨ga, a * 2, none⟩) ga0).trans ca0
  have da1 := (hb2.out.cell (p := ⟨ga, a * 2 + 1, none⟩) ga0).trans ca1
  have ea0 := (hb2.out.frozen (p := ⟨ga, a * 2, none⟩) ga0).trans fa0
  have ea1 := (hb2.out.frozen (p := ⟨ga, a * 2 + 1, none⟩) ga0).trans fa1
  clear ca0 ca1 fa0 fa1
  have lga : ga < W2.heap.size := Nat.lt_of_lt_of_le ga0 hb2.out.size
  have hQ2 := Lib.hid hq2
  have hP2 := Lib.hid hp2
  clear hq2 hp2
  have hp1 := fun (W : World) => eq_acc W ⟨ga, a * 2, none⟩
  go_wp2_with fail
  go_quiet (fail)
  revert nq
  intro m1
  go_wp2_with fail
  go_quiet (fail)
  revert nq
  intro m2
  go_wp2_with fail
  go_quiet (fail)
  revert nq
  intro m3
  go_wp2_with fail
  go_quiet (fail)
  revert nq
  intro m4
  go_wp2_with fail
  go_region
  generalize m1 + m2 + m3 + m4 + 1 = m
  have hB3 := below_drewN hb2.out m
  have hO3 : Own (W2.drewN m) B 39 2 ga cap l.length (pairCells l) := H.out.same (hB3.block ga ga0)
  have z1 : ((W2.drewN m).setCell ⟨ga, a * 2, none⟩ (.int .i64 (n1 - n))).cell? ⟨ga, a * 2, none⟩ = some (.int .i64 (n1 - n)) := World.cell?_setCell_same' _ _ _ (by rw [show (W2.drewN m).cell? ⟨ga, a * 2, none⟩ = _ from da0]; rfl)
  have z2 : ((W2.drewN m).setCell ⟨ga, a * 2, none⟩ (.int .i64 (n1 - n))).cell? ⟨ga, a * 2 + 1, none⟩ = some (.int .i64 ser) := (World.cell?_setCell_other _ _ _ _ (by simp)).trans da1
  have z3 : ((W2.drewN m).setCell ⟨ga, a * 2, none⟩ (.int .i64 (n1 - n))).cell? ⟨w.heap.size + 1, 3, none⟩ = some (.int .i64 n) := (World.cell?_setCell_other _ _ _ _ (by simp <;> omega)).trans p3
  have y1 : ((W2.drewN m).setCell ⟨ga, a * 2, none⟩ (.int .i64 (n1 - n))).frozen? ⟨ga, a * 2, none⟩ = false := (World.frozen?_setCell _ _ _ _).trans ea0
  have y2 : ((W2.drewN m).setCell ⟨ga, a * 2, none⟩ (.int .i64 (n1 - n))).frozen? ⟨ga, a * 2 + 1, none⟩ = false := (World.frozen?_setCell _ _ _ _).trans ea1
  have lW : ((W2.drewN m).setCell ⟨ga, a * 2, none⟩ (.int .i64 (n1 - n))).heap.size = W2.heap.size := by simp [World.setCell, World.drewN]
  have HB := Lib.hid (And.intro hB3 hO3)
  clear hB3 hO3 q0 p0 p1 p2 p3 da0 da1 ea0 ea1 hp1
  generalize hW3 : (W2.drewN m).setCell ⟨ga, a * 2, none⟩ (.int .i64 (n1 - n)) = W3 at z1 z2 z3 y1 y2 lW ⊢
  have HW3 := Lib.hid hW3
  clear hW3
  go_wp2_with fail
  go_region
  have x2 : ((W3.setCell ⟨ga, a * 2, none⟩ (.int .i64 n1)).drew).cell? ⟨ga, a * 2 + 1, none⟩ = some (.int .i64 ser) := (World.cell?_setCell_other _ _ _ _ (by simp <;> omega)).trans z2
  have x3 : ((W3.setCell ⟨ga, a * 2, none⟩ (.int .i64 n1)).drew).frozen? ⟨ga, a * 2 + 1, none⟩ = false := (World.frozen?_setCell _ _ _ _).trans y2
  have lX : ((W3.setCell ⟨ga, a * 2, none⟩ (.int .i64 n1)).drew).heap.size = W2.heap.size := by rw [← lW]; simp [World.setCell]
  clear z1 z2 z3 y1 y2 lW
  generalize hW4 : (W3.setCell ⟨ga, a * 2, none⟩ (.int .i64 n1)).drew = W4 at x2 x3 lX ⊢
  have HW4 := Lib.hid hW4
  clear hW4
  go_wp2_with fail
  go_ret
  exact ⟨rfl, by rw [Lg.moved_length]; exact made_own HB.out.2 ha ha (by rw [HW3.out]) (show W4.heap = _ by rw [← HW4.out]; rfl) rfl (by rw [HS.out.2]) (by rw [if_pos rfl]; omega) (by rw [HS.out.1]), made_grown (W1 := W2.drewN m) (grown_of_below HB.out.1 _) (W2 := W3) HW3.out.symm HW4.out.symm rfl⟩


/-- one pay -/
theorem pay_calls (h : Own w B 39 2 ga cap l.length (pairCells l)) (hl : l.length ≤ 12) (hk : k ≤ 60) (ho : Lg.Ok l k) (p : Lg.Pay) :
    Calls Tryd.prog 29 #[.slice (some ⟨ga, 0, none⟩) l.length cap, payV p] w (PayAt w B ga cap (Lg.step l p) (Lg.code l p)) := by
  by_cases hc : Lg.isAcc l p.src = false ∨ Lg.isAcc l p.dst = false ∨ p.n < 1
  · have e : Lg.code l p = 2 := by unfold Lg.code; rw [if_pos hc]
    have e2 : Lg.step l p = l := by unfold Lg.step; rw [e, if_neg (by omega)]
    rw [e, e2]
    exact pay_arg h p hc
  · obtain ⟨src, dst, ser, n⟩ := p
    have hc' := hc
    simp only [not_or, Bool.not_eq_false, Lg.isAcc_iff] at hc'
    obtain ⟨⟨a0, a1⟩, ⟨b0, b1⟩, g1⟩ := hc'
    obtain ⟨a, rfl⟩ := Int.eq_ofNat_of_zero_le a0
    obtain ⟨b, rfl⟩ := Int.eq_ofNat_of_zero_le b0
    have ha : a < l.length := by omega
    have hb : b < l.length := by omega
    have ca0 := Own.cell h (pairCells_fst l a ha)
    have ca1 := Own.cell h (pairCells_snd l a ha)
    have cb0 := Own.cell h (pairCells_fst l b hb)
    have e : Lg.code l ⟨a, b, ser, n⟩ = if ser ≠ (l.getD a (0, 0)).2 then 3 else if (l.getD a (0, 0)).1 < n then 5 else if (a : Int) ≠ b ∧ 1099511627776 - n < (l.getD b (0, 0)).1 then 7 else 0 := by
      unfold Lg.code
      rw [if_neg hc]
      simp only [Int.toNat_natCast]
    by_cases h3 : ser = (l.getD a (0, 0)).2
    · rw [if_neg (by simpa using h3)] at e
      by_cases h5 : (l.getD a (0, 0)).1 < n
      · rw [if_pos h5] at e
        have e2 : Lg.step l ⟨a, b, ser, n⟩ = l := by unfold Lg.step; rw [e, if_neg (by omega)]
        rw [e, e2]
        exact pay_none h hl hk a b ser n _ _ _ ha hb (by omega) ca0 ca1 cb0 (ho.n0 a) (ho.n1 a) (ho.n0 b) (ho.n1 b) (ho.s0 a) (ho.s1 a) h3 h5
      · rw [if_neg h5] at e
        by_cases hab : a = b
        · subst hab
          rw [if_neg (by omega)] at e
          have e2 : Lg.step l ⟨a, a, ser, n⟩ = Lg.moved l a a n := by unfold Lg.step; rw [e, if_pos rfl]; simp
          rw [e, e2]
          exact pay_self h hl hk a ser n _ _ ha (by omega) ca0 ca1 (ho.n0 a) (ho.n1 a) (ho.s0 a) (ho.s1 a) ⟨rfl, rfl⟩ h3 (by omega)
        · by_cases h7 : 1099511627776 - n < (l.getD b (0, 0)).1
          · rw [if_pos ⟨by omega, h7⟩] at e
            have e2 : Lg.step l ⟨a, b, ser, n⟩ = l := by unfold Lg.step; rw [e, if_neg (by omega)]
            rw [e, e2]
            exact pay_full h hl hk a b ser n _ _ _ ha hb (by omega) ca0 ca1 cb0 (ho.n0 a) (ho.n1 a) (ho.n0 b) (ho.n1 b) (ho.s0 a) (ho.s1 a) h3 (by omega) hab h7
          · rw [if_neg (by omega)] at e
            have e2 : Lg.step l ⟨a, b, ser, n⟩ = Lg.moved l a b n := by unfold Lg.step; rw [e, if_pos rfl]; simp
            rw [e, e2]
            exact pay_made h hl hk a b ser n _ _ _ ha hb (by omega) ca0 ca1 cb0 (ho.n0 a) (ho.n1 a) (ho.n0 b) (ho.n1 b) (ho.s0 a) (ho.s1 a) ⟨rfl, rfl, rfl⟩ h3 (by omega) hab (by omega)
    · rw [if_pos h3] at e
      have e2 : Lg.step l ⟨a, b, ser, n⟩ = l := by unfold Lg.step; rw [e, if_neg (by omega)]
      rw [e, e2]
      exact pay_form h hl hk a b ser n _ _ _ ha hb (by omega) ca0 ca1 cb0 (ho.n0 a) (ho.n1 a) (ho.n0 b) (ho.n1 b) (ho.s0 a) (ho.s1 a) h3
end
end Go.Proofs.YtkcekjpohpenkaaDoor
