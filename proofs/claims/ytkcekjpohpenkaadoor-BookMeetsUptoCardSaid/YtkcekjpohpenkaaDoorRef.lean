import Derived.Test.YtkcekjpohpenkaaDoorBall
/- The reference's comparisons of like lists. -/
set_option linter.unusedVariables false
set_option linter.unusedSimpArgs false
set_option maxRecDepth 100000
namespace Go.Proofs.YtkcekjpohpenkaaDoor
open Go.RowKit Mo

theorem code_row {w : World} {B n : Nat} {x : Option Addr} {c : Nat} {l : List Int} {e : TypeId} (h : w.ownsRow B e 1 (.slice x n c) n (codeCells l)) (hl : l.length = n) : MRow w x l :=
  ⟨fun i hi => by
    obtain ⟨g, c2, hv, _, hg⟩ := h.form (by omega)
    have h2 := h
    rw [hv] at h2
    simp only [Value.slice.injEq] at hv
    refine ⟨_, hv.1, hg, fun v hv => ?_⟩
    have := Own.cell h2 (j := i) (v := .int .i64 v) (by rw [codeCells, List.getElem?_map, hv]; rfl)
    rcases Nat.eq_zero_or_pos i with e | e
    · subst e; exact this
    · have hi0 : i ≠ 0 := by omega
      simpa [Addr.add, hi0] using this⟩

section
variable {w : World}
theorem codes_calls {a b : Option Addr} {l : List Int} (ca cb : Nat) (ha : MRow w a l) (hb : MRow w b l) (hl : l.length ≤ 1000) :
    Calls Tryd.prog 20 #[.slice a l.length ca, .slice b l.length cb] w fun e w' => e = .returned (.bool true) ∧ Below w.heap.size w w' := by
  have HA := Lib.hid ha
  have HB := Lib.hid hb
  have hz : ((l.length : Int) != (l.length : Int)) = false := by simp
  clear ha hb
  go_enter Tryd.func20, Tryd.ntmps20
  go_wp2_with fail
  go_loopw [5] (fun v wr => ∃ k : Nat, v = .int .i64 k ∧ k ≤ l.length ∧ Below w.heap.size w wr) (fun v _ => l.length - (intOf v).toNat)
  case atStart => exact ⟨0, rfl, by omega, Below.refl _ _⟩
  case round =>
    obtain ⟨k, rfl, hk, hbr⟩ := hrel
    by_cases hkl : l.length = k
    · subst hkl
      have hbr' := Lib.hid hbr
      clear hbr
      go_wp2_with fail
      go_ret
      exact ⟨rfl, hbr'.out⟩
    · have hk' : k < l.length := by omega
      obtain ⟨x, rfl, hx, hxc⟩ := HA.out.row k hk'
      obtain ⟨y, rfl, hy, hyc⟩ := HB.out.row k hk'
      have hg : l[k]? = some l[k] := List.getElem?_eq_getElem hk'
      have x0 := (hbr.cell (p := x.add k) (by rw [addr_block]; exact hx)).trans (hxc _ hg)
      have y0 := (hbr.cell (p := y.add k) (by rw [addr_block]; exact hy)).trans (hyc _ hg)
      have hsz := hbr.size
      have hxw : x.block < wr.heap.size := by omega
      have hyw : y.block < wr.heap.size := by omega
      have hbr' := Lib.hid hbr
      have HK := Lib.hid hkl
      clear hbr hxc hyc hg hkl hx hy
      generalize l[k] = z at x0 y0
      have hzz : (z != z) = false := by simp
      go_wp2_with fail
      go_quiet (fail)
      go_wp2_with fail
      go_roundw
      case measure => simp [intOf]; omega
      exact ⟨k + 1, by simp, by omega, below_drewN hbr'.out nq⟩

theorem bools_calls {ga gb n : Nat} {f : Nat → Bool} (ca cb : Nat) (hn : n ≤ 1000) (ha : ∀ i, i < n → w.cell? ⟨ga, i, none⟩ = some (.bool (f i))) (hb : ∀ i, i < n → w.cell? ⟨gb, i, none⟩ = some (.bool (f i))) (la : ga < w.heap.size) (lb : gb < w.heap.size) :
    Calls Tryd.prog 21 #[.slice (some ⟨ga, 0, none⟩) n ca, .slice (some ⟨gb, 0, none⟩) n cb] w fun e w' => e = .returned (.bool true) ∧ Below w.heap.size w w' := by
  have HA := Lib.hid ha
  have HB := Lib.hid hb
  have hz : ((n : Int) != (n : Int)) = false := by simp
  clear ha hb
  go_enter Tryd.func21, Tryd.ntmps21
  go_wp2_with fail
  go_loopw [5] (fun v wr => ∃ k : Nat, v = .int .i64 k ∧ k ≤ n ∧ Below w.heap.size w wr) (fun v _ => n - (intOf v).toNat)
  case atStart => exact ⟨0, rfl, by omega, Below.refl _ _⟩
  case round =>
    obtain ⟨k, rfl, hk, hbr⟩ := hrel
    by_cases hkl : n = k
    · subst hkl
      have hbr' := Lib.hid hbr
      clear hbr
      go_wp2_with fail
      go_ret
      exact ⟨rfl, hbr'.out⟩
    · have hk' : k < n := by omega
      have x0 := (hbr.cell (p := ⟨ga, k, none⟩) la).trans (HA.out k hk')
      have y0 := (hbr.cell (p := ⟨gb, k, none⟩) lb).trans (HB.out k hk')
      have hsz := hbr.size
      have hbr' := Lib.hid hbr
      have HK := Lib.hid hkl
      clear hbr hkl
      generalize f k = z at x0 y0
      have hzz : (z != z) = false := by simp
      go_wp2_with fail
      go_quiet (fail)
      go_wp2_with fail
      go_roundw
      case measure => simp [intOf]; omega
      exact ⟨k + 1, by simp, by omega, below_drewN hbr'.out nq⟩

set_option maxHeartbeats 1000000 in
theorem meetings_calls {c : Cfg} {s : St} {g1 g2 g3 k1 k2 k3 : Nat} {x1 x2 : Option Addr} {l : List Int} {n c0 c1 c2 c3 d0 d1 d2 d3 : Nat} (hn : l.length = n) (hl : n ≤ 1000) (hs : s.blocks.length ≤ 1000)
    (h1 : MeetAt w c s g1 g2 g3) (h2 : MeetAt w c s k1 k2 k3) (r1 : MRow w x1 l) (r2 : MRow w x2 l) :
    Calls Tryd.prog 11 #[.agg #[.slice x1 n c0, .slice (some ⟨g1, 0, none⟩) s.blocks.length c1, .slice (some ⟨g2, 0, none⟩) s.blocks.length c2, .slice (some ⟨g3, 0, none⟩) s.blocks.length c3], .agg #[.slice x2 n d0, .slice (some ⟨k1, 0, none⟩) s.blocks.length d1, .slice (some ⟨k2, 0, none⟩) s.blocks.length d2, .slice (some ⟨k3, 0, none⟩) s.blocks.length d3]] w fun e w' => e = .returned (.bool true) ∧ Below w.heap.size w w' := by
  subst hn
  have HH := Lib.hid (And.intro h1 (And.intro h2 (And.intro r1 r2)))
  have hz : ((s.blocks.length : Int) != (s.blocks.length : Int)) = false := by simp
  have hB := (((Below.refl _ w).alloc (Nat.le_refl _) (.cells #[.slice x1 l.length c0, .slice (some ⟨g1, 0, none⟩) s.blocks.length c1, .slice (some ⟨g2, 0, none⟩) s.blocks.length c2, .slice (some ⟨g3, 0, none⟩) s.blocks.length c3] 30)).alloc (by simp) (.cells #[.slice x2 l.length d0, .slice (some ⟨k1, 0, none⟩) s.blocks.length d1, .slice (some ⟨k2, 0, none⟩) s.blocks.length d2, .slice (some ⟨k3, 0, none⟩) s.blocks.length d3] 30))
  have hK1 := (Blk.new w 30 #[.slice x1 l.length c0, .slice (some ⟨g1, 0, none⟩) s.blocks.length c1, .slice (some ⟨g2, 0, none⟩) s.blocks.length c2, .slice (some ⟨g3, 0, none⟩) s.blocks.length c3]).alloc (.cells #[.slice x2 l.length d0, .slice (some ⟨k1, 0, none⟩) s.blocks.length d1, .slice (some ⟨k2, 0, none⟩) s.blocks.length d2, .slice (some ⟨k3, 0, none⟩) s.blocks.length d3] 30)
  have hK2 := Blk.new (w.alloc (.cells #[.slice x1 l.length c0, .slice (some ⟨g1, 0, none⟩) s.blocks.length c1, .slice (some ⟨g2, 0, none⟩) s.blocks.length c2, .slice (some ⟨g3, 0, none⟩) s.blocks.length c3] 30)) 30 #[.slice x2 l.length d0, .slice (some ⟨k1, 0, none⟩) s.blocks.length d1, .slice (some ⟨k2, 0, none⟩) s.blocks.length d2, .slice (some ⟨k3, 0, none⟩) s.blocks.length d3]
  rw [World.size_alloc] at hK2
  have HB := Lib.hid hB
  have HK1 := Lib.hid hK1
  have HK2 := Lib.hid hK2
  clear h1 h2 r1 r2 hB hK1 hK2
  go_enter Tryd.func11, Tryd.ntmps11
  go_wp2_with fail
  generalize hW : ((w.alloc (.cells #[.slice x1 l.length c0, .slice (some ⟨g1, 0, none⟩) s.blocks.length c1, .slice (some ⟨g2, 0, none⟩) s.blocks.length c2, .slice (some ⟨g3, 0, none⟩) s.blocks.length c3] 30)).alloc (.cells #[.slice x2 l.length d0, .slice (some ⟨k1, 0, none⟩) s.blocks.length d1, .slice (some ⟨k2, 0, none⟩) s.blocks.length d2, .slice (some ⟨k3, 0, none⟩) s.blocks.length d3] 30)) = W at HB HK1 HK2 ⊢
  have HW := Lib.hid hW
  clear hW
  refine (codes_calls _ _ (HH.out.2.2.1.later HB.out) (HH.out.2.2.2.later HB.out) hl).mono ?_
  rintro e wa ⟨rfl, hba⟩
  have sa := hba.size
  have hBa := Lib.hid (HB.out.trans (hba.mono HB.out.size))
  have HK1a := Lib.hid (HK1.out.below hba HK1.out.lt)
  have HK2a := Lib.hid (HK2.out.below hba HK2.out.lt)
  have a1 := HK1a.out.cell 2
  have a2 := HK2a.out.cell 2
  simp only [List.getElem?_toArray, List.getElem?_cons_zero, List.getElem?_cons_succ] at a1 a2
  clear hba
  go_wp2_with fail
  refine (bools_calls (f := fun i => certified c s i) _ _ hs (HH.out.1.later hBa.out).cert (HH.out.2.1.later hBa.out).cert (HH.out.1.later hBa.out).gc (HH.out.2.1.later hBa.out).gc).mono ?_
  rintro e wb ⟨rfl, hbb⟩
  have hBb := Lib.hid (hBa.out.trans (hbb.mono hBa.out.size))
  have HK1b := Lib.hid (HK1a.out.below hbb HK1a.out.lt)
  have HK2b := Lib.hid (HK2a.out.below hbb HK2a.out.lt)
  have b1 := HK1b.out.cell 3
  have b2 := HK2b.out.cell 3
  simp only [List.getElem?_toArray, List.getElem?_cons_zero, List.getElem?_cons_succ] at b1 b2
  clear hbb a1 a2
  go_wp2_with fail
  refine (bools_calls (f := fun i => (decided c s).getD i false) _ _ hs (HH.out.1.later hBb.out).dec (HH.out.2.1.later hBb.out).dec (HH.out.1.later hBb.out).gd (HH.out.2.1.later hBb.out).gd).mono ?_
  rintro e wc ⟨rfl, hbc⟩
  have hBc := Lib.hid (hBb.out.trans (hbc.mono hBb.out.size))
  have HK1c := Lib.hid (HK1b.out.below hbc HK1b.out.lt)
  have HK2c := Lib.hid (HK2b.out.below hbc HK2b.out.lt)
  have c1' := HK1c.out.cell 1
  have c2' := HK2c.out.cell 1
  simp only [List.getElem?_toArray, List.getElem?_cons_zero, List.getElem?_cons_succ] at c1' c2'
  clear hbc b1 b2
  have HZ := Lib.hid (And.intro sa HW)
  go_wp2_with fail
  have lc1 := HK1c.out.lt
  have lc2 := HK2c.out.lt
  go_loopw [5] (fun v wr => ∃ k : Nat, v = .int .i64 k ∧ k ≤ s.blocks.length ∧ Below wc.heap.size wc wr) (fun v _ => s.blocks.length - (intOf v).toNat)
  case atStart => exact ⟨0, rfl, by omega, Below.refl _ _⟩
  case round =>
    obtain ⟨k, rfl, hk, hbr⟩ := hrel
    have d1' := (hbr.cell (p := ⟨w.heap.size, 1, none⟩) lc1).trans c1'
    have d2' := (hbr.cell (p := ⟨w.heap.size + 1, 1, none⟩) lc2).trans c2'
    by_cases hkl : s.blocks.length = k
    · subst hkl
      have hbr' := Lib.hid hbr
      clear hbr
      go_wp2_with fail
      go_ret
      exact ⟨rfl, hBc.out.trans (hbr'.out.mono hBc.out.size)⟩
    · have hk' : k < s.blocks.length := by omega
      have hM1 := (HH.out.1.later hBc.out).later hbr
      have hM2 := (HH.out.2.1.later hBc.out).later hbr
      have e1 := hM1.blocks.par k hk'
      have e2 := hM1.blocks.rnd k hk'
      have e3 := hM2.blocks.par k hk'
      have e4 := hM2.blocks.rnd k hk'
      have e5 := hM1.blocks.gb
      have e6 := hM2.blocks.gb
      have hbr' := Lib.hid hbr
      have HK := Lib.hid hkl
      clear hbr hkl hM1 hM2
      generalize (s.blocks.getD k (0, 0)).1 = y at e1 e3
      generalize (s.blocks.getD k (0, 0)).2 = z at e2 e4
      have hyy : (y != y) = false := by simp
      have hzz : (z != z) = false := by simp
      have hy2 : (y == y) = true := by simp
      have hz2 : (z == z) = true := by simp
      go_wp2_with fail
      go_quiet (fail)
      go_wp2_with fail
      go_roundw
      case measure => simp [intOf]; omega
      exact ⟨k + 1, by simp, by omega, below_drewN hbr'.out nq⟩

theorem lcheck_calls {a : Option Addr} {m : List Int} (ca : Nat) (ha : MRow w a m) (h : ledCode m 0 ≠ 0) :
    Calls Tryd.prog 10 #[.slice a m.length ca, .int .i64 0] w fun e w' => e = .returned (.int .i64 (ledCode m 0)) ∧ Below w.heap.size w w' := by
  have HA := Lib.hid ha
  clear ha
  unfold ledCode at h ⊢
  have h60 : ¬ 60 < 0 := by omega
  split at h
  · rename_i h1
    rw [if_pos h1]
    clear h
    by_cases h0 : m.length = 0
    · have h0' : ((m.length : Int) == 0) = true := by simp [h0]
      clear h1 h0
      go_enter Tryd.func10, Tryd.ntmps10
      go_wp2_with fail
      go_ret
      exact ⟨rfl, Below.refl _ _⟩
    · have h0' : ((m.length : Int) == 0) = false := by simpa using h0
      have h1' : (12 : Int) < m.length := by omega
      clear h1
      go_enter Tryd.func10, Tryd.ntmps10
      go_wp2_with fail
      go_ret
      exact ⟨rfl, Below.refl _ _⟩
  · rename_i h1
    rw [if_neg h1]
    split at h
    · rename_i h2
      rw [if_pos h2]
      clear h
      have H2 := Lib.hid h2
      clear h2
      have h0 : ¬ m.length = 0 := by omega
      have h0' : ((m.length : Int) == 0) = false := by simpa using h0
      have h3' : ¬ (12 : Int) < m.length := by omega
      go_enter Tryd.func10, Tryd.ntmps10
      clear h1
      go_wp2_with fail
      go_loopw [21] (fun v wr => ∃ k : Nat, v = .int .i64 k ∧ k ≤ m.length ∧ (m.take k).any bad = false ∧ w = wr) (fun v _ => m.length - (intOf v).toNat)
      case atStart => exact ⟨0, rfl, by omega, by simp, rfl⟩
      case round =>
        obtain ⟨k, rfl, hk, hnb, rfl⟩ := hrel
        by_cases hkl : m.length = k
        · subst hkl
          rw [List.take_length, H2.out] at hnb
          cases hnb
        · have hk' : k < m.length := by omega
          obtain ⟨x, rfl, hx, hxc⟩ := HA.out.row k hk'
          have hg : m[k]? = some m[k] := List.getElem?_eq_getElem hk'
          have x0 := hxc _ hg
          have hnx : bad m[k] = false → (m.take (k + 1)).any bad = false := fun hb => by rw [List.take_add_one, hg, List.any_append, hnb]; simp [hb]
          have HNX := Lib.hid hnx
          have HK := Lib.hid hkl
          clear hnx hxc hg hkl hnb
          generalize m[k] = z at x0 HNX
          by_cases h4 : z < 0
          · go_wp2_with fail
            go_ret
            exact ⟨rfl, Below.refl _ _⟩
          · by_cases h5 : 1099511627776 < z
            · go_wp2_with fail
              go_ret
              exact ⟨rfl, Below.refl _ _⟩
            · go_wp2_with fail
              go_roundw
              case measure => simp [intOf]; omega
              exact ⟨k + 1, by simp, by omega, HNX.out (by simp only [bad, Bool.or_eq_false_iff, decide_eq_false_iff_not]; omega), by first | trivial | rfl⟩
    · exact absurd rfl h
end
end Go.Proofs.YtkcekjpohpenkaaDoor
