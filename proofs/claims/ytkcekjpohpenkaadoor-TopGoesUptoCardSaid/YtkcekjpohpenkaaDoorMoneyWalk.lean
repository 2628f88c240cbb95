import Derived.Test.YtkcekjpohpenkaaDoorBall
/- TopMoney's walk. -/
set_option linter.unusedVariables false
set_option linter.unusedSimpArgs false
set_option maxRecDepth 100000
namespace Go.Proofs.YtkcekjpohpenkaaDoor
open Go.RowKit Mo

/-- the law says yes, and what was there is as it was -/
def Yes (w : World) (e : Ending) (w' : World) : Prop := e = .returned (.bool true) ∧ Below w.heap.size w w'

def msum : List Int → Int
  | [] => 0
  | x :: r => x + msum r
theorem msum_total : ∀ m : List Int, Lg.total (start0 m) = msum m
  | [] => rfl
  | x :: r => by
    have := msum_total r
    show x + Lg.total (start0 r) = x + msum r
    rw [this]
theorem msum_snoc : ∀ (l : List Int) (x : Int), msum (l ++ [x]) = msum l + x
  | [], x => by simp [msum]
  | y :: r, x => by
    have := msum_snoc r x
    simp only [List.cons_append, msum, this]
    omega
theorem total_snoc : ∀ (l : List Lg.Acc) (x : Lg.Acc), Lg.total (l ++ [x]) = Lg.total l + x.1
  | [], x => by simp [Lg.total]
  | y :: r, x => by
    have := total_snoc r x
    simp only [List.cons_append, Lg.total, this]
    omega

section
variable {w : World}
set_option maxHeartbeats 1000000 in
theorem money_err (n f : Int) (liars : Nat) (sv mv pv : Value) (code : Int) (hcode : code ≠ 0)
    (hp : Calls Tryd.prog 6 #[.int .i64 n, .int .i64 f, .int .u32 liars, sv, mv, pv] w fun e w' => e = .returned (.tuple #[zeroBooked, .int .i64 code]) ∧ Below w.heap.size w w') :
    Calls Tryd.prog 3 #[.int .i64 n, .int .i64 f, .int .u32 liars, sv, mv, pv] w (Yes w) := by
  have hP := Lib.hid hp
  clear hp
  have hc1 : (code != 0) = true := by simpa using hcode
  unfold zeroBooked at hP
  go_enter Tryd.func3, Tryd.ntmps3
  go_wp2_with (go_at_call 6; refine (hP.out).mono ?_; rintro e w1 ⟨rfl, hb1⟩; have HB := Lib.hid hb1; clear hb1)
  go_ret
  exact ⟨rfl, HB.out.alloc HB.out.size _⟩

set_option maxHeartbeats 4000000 in
theorem money_ok (n f : Int) (liars cap mcap : Nat) (a ma : Option Addr) (l : List Say) (m : List Int) (pv : Value) (c : Cfg) (s : St) (ps : List Lg.Pay) (hm : MRow w ma m) (hbad : m.any bad = false) (h12 : m.length ≤ 12) (h60 : ps.length ≤ 60)
    (hp : Calls Tryd.prog 6 #[.int .i64 n, .int .i64 f, .int .u32 liars, .slice a l.length cap, .slice ma m.length mcap, pv] w (BookAt w c s l m ps)) :
    Calls Tryd.prog 3 #[.int .i64 n, .int .i64 f, .int .u32 liars, .slice a l.length cap, .slice ma m.length mcap, pv] w (Yes w) := by
  have hP := Lib.hid hp
  have HM := Lib.hid hm
  have hmx : ∀ x ∈ m, 0 ≤ x ∧ x ≤ 1099511627776 := fun x hx => by
    have : bad x = false := by
      cases hbx : bad x with
      | false => rfl
      | true => exact absurd (List.any_eq_true.2 ⟨x, hx, hbx⟩) (by rw [hbad]; simp)
    simp only [bad, Bool.or_eq_false_iff, decide_eq_false_iff_not] at this
    omega
  have hok : Lg.Ok (Lg.run (start0 m) ps).1 (0 + ps.length) := (Lg.Ok.start hmx).run ps
  have HX := Lib.hid (And.intro hmx (And.intro hok hbad))
  clear hp hm hbad hmx hok
  go_enter Tryd.func3, Tryd.ntmps3
  go_wp2_with fail
  refine (hP.out).mono ?_
  intro e w1 hbk
  obtain ⟨cx, cc0, gb, cb, gc, cc, gd, vx, vc, ga, ca, cod, rfl, hM, hCx, hV, hCo, hA, hB⟩ := hbk
  obtain ⟨ck, cn2, rfl⟩ := row_len hCo
  have hb2 : Below w1.heap.size w1 (w1.alloc (.cells #[.slice cx l.length cc0, .slice (some ⟨gb, 0, none⟩) s.blocks.length cb, .slice (some ⟨gc, 0, none⟩) s.blocks.length cc, .slice (some ⟨gd, 0, none⟩) s.blocks.length s.blocks.length, .slice vx ps.length vc, .slice ck ps.length cn2, .slice (some ⟨ga, 0, none⟩) m.length ca] 34)) := (Below.refl _ w1).alloc (Nat.le_refl _) _
  have hK2 := Lib.hid (Blk.new w1 34 #[.slice cx l.length cc0, .slice (some ⟨gb, 0, none⟩) s.blocks.length cb, .slice (some ⟨gc, 0, none⟩) s.blocks.length cc, .slice (some ⟨gd, 0, none⟩) s.blocks.length s.blocks.length, .slice vx ps.length vc, .slice ck ps.length cn2, .slice (some ⟨ga, 0, none⟩) m.length ca])
  have hV2 := Lib.hid (row_turned hV (w' := w1.alloc (.cells #[.slice cx l.length cc0, .slice (some ⟨gb, 0, none⟩) s.blocks.length cb, .slice (some ⟨gc, 0, none⟩) s.blocks.length cc, .slice (some ⟨gd, 0, none⟩) s.blocks.length s.blocks.length, .slice vx ps.length vc, .slice ck ps.length cn2, .slice (some ⟨ga, 0, none⟩) m.length ca] 34)) (fun g cs hg => hb2.block g hg.lt))
  have hCo2 := Lib.hid (row_turned hCo (w' := w1.alloc (.cells #[.slice cx l.length cc0, .slice (some ⟨gb, 0, none⟩) s.blocks.length cb, .slice (some ⟨gc, 0, none⟩) s.blocks.length cc, .slice (some ⟨gd, 0, none⟩) s.blocks.length s.blocks.length, .slice vx ps.length vc, .slice ck ps.length cn2, .slice (some ⟨ga, 0, none⟩) m.length ca] 34)) (fun g cs hg => hb2.block g hg.lt))
  have hA2 := Lib.hid (row_turned hA (w' := w1.alloc (.cells #[.slice cx l.length cc0, .slice (some ⟨gb, 0, none⟩) s.blocks.length cb, .slice (some ⟨gc, 0, none⟩) s.blocks.length cc, .slice (some ⟨gd, 0, none⟩) s.blocks.length s.blocks.length, .slice vx ps.length vc, .slice ck ps.length cn2, .slice (some ⟨ga, 0, none⟩) m.length ca] 34)) (fun g cs hg => hb2.block g hg.lt))
  have hB2 := Lib.hid (hB.trans (hb2.mono hB.size))
  have hlen : (Lg.run (start0 m) ps).1.length = m.length := by rw [(Lg.run_length _ _).1]; simp [start0]
  have hclen : (Lg.run (start0 m) ps).2.length = ps.length := (Lg.run_length _ _).2
  have HLEN := Lib.hid (And.intro hlen hclen)
  clear hM hCx hV hCo hA hB hb2 hlen hclen
  generalize hW2 : w1.alloc (.cells #[.slice cx l.length cc0, .slice (some ⟨gb, 0, none⟩) s.blocks.length cb, .slice (some ⟨gc, 0, none⟩) s.blocks.length cc, .slice (some ⟨gd, 0, none⟩) s.blocks.length s.blocks.length, .slice vx ps.length vc, .slice ck ps.length cn2, .slice (some ⟨ga, 0, none⟩) m.length ca] 34) = W2 at hK2 hV2 hCo2 hA2 hB2
  have HW2 := Lib.hid hW2
  have k4 := hK2.out.cell 4
  have k5 := hK2.out.cell 5
  have k6 := hK2.out.cell 6
  have kl := hK2.out.lt
  simp only [List.getElem?_toArray, List.getElem?_cons_zero, List.getElem?_cons_succ] at k4 k5 k6
  have zm : ((m.length : Int) != (m.length : Int)) = false := by simp
  have zp : ((ps.length : Int) != (ps.length : Int)) = false := by simp
  go_wp2_with fail
  clear hW2
  go_loopw [15, 16, 17] (fun x y i wr => ∃ (k : Nat) (t1 t2 : Int), x = .int .i64 t1 ∧ y = .int .i64 t2 ∧ i = .int .i64 k ∧ k ≤ m.length ∧ t1 = msum (m.take k) ∧ t2 = Lg.total ((Lg.run (start0 m) ps).1.take k) ∧ 0 ≤ t1 ∧ t1 ≤ 1099511627776 * (k : Int) ∧ 0 ≤ t2 ∧ t2 ≤ 1099511627776 * (k : Int) ∧ W2 = wr) (fun _ _ i _ => m.length - (intOf i).toNat)
  case atStart => exact ⟨0, 0, 0, rfl, rfl, rfl, by omega, rfl, rfl, by omega, by omega, by omega, by omega, by first | trivial | rfl⟩
  case round =>
    obtain ⟨k, t1, t2, rfl, rfl, rfl, hk, e1, e2, b1, b2, b3, b4, rfl⟩ := hrel
    have E12 := Lib.hid (And.intro e1 e2)
    clear e1 e2
    by_cases hkl : m.length = k
    · subst hkl
      have heq : t1 = t2 := by
        obtain ⟨e1, e2⟩ := E12.out
        rw [List.take_length] at e1
        rw [← HLEN.out.1, List.take_length] at e2
        rw [e1, e2, Lg.total_run, msum_total]
      subst heq
      go_wp2_with fail
      go_loopw [18] (fun i wr => ∃ k : Nat, i = .int .i64 k ∧ k ≤ ps.length ∧ Below W2.heap.size W2 wr) (fun i _ => ps.length - (intOf i).toNat)
      case atStart => exact ⟨0, rfl, by omega, Below.refl _ _⟩
      case round =>
        obtain ⟨i, rfl, hi, hbr⟩ := hrel
        have n4 := (hbr.cell (p := ⟨w1.heap.size, 4, none⟩) kl).trans k4
        have hbr' := Lib.hid hbr
        have hsr := hbr.size
        by_cases hil : ps.length = i
        · subst hil
          clear hbr
          go_wp2_with fail
          go_ret
          exact ⟨by simp, hB2.out.trans (hbr'.out.mono hB2.out.size)⟩
        · have hi' : i < ps.length := by omega
          have HI := Lib.hid hil
          clear hil hbr
          go_wp2_with fail
          generalize hWo : wr = Wo at hbr' hsr n4 ⊢
          have HWo := Lib.hid hWo
          clear hWo
          go_loopw [19] (fun j wr => ∃ k : Nat, j = .int .i64 k ∧ k ≤ i ∧ Below W2.heap.size W2 wr) (fun j _ => i - (intOf j).toNat)
          case atStart => exact ⟨0, rfl, by omega, hbr'.out⟩
          case round =>
            obtain ⟨j, rfl, hj, hbz⟩ := hrel
            have hbz' := Lib.hid hbz
            have hsz := hbz.size
            by_cases hjl : i = j
            · subst hjl
              clear hbz
              go_wp2_with fail
              go_roundw
              case measure => simp [intOf]; omega
              exact ⟨i + 1, by simp, by omega, hbz'.out⟩
            · have hj' : j < i := by omega
              obtain ⟨gv, cv, hv, _, hgv⟩ := hV2.out.form (by omega)
              obtain ⟨gk, cvk, hkv, _, hgk⟩ := hCo2.out.form (by omega)
              have z4 := (hbz.cell (p := ⟨w1.heap.size, 4, none⟩) kl).trans k4
              have z5 := (hbz.cell (p := ⟨w1.heap.size, 5, none⟩) kl).trans k5
              rw [hv] at z4
              rw [hkv] at z5
              have hV3 := hV2.out
              rw [hv] at hV3
              have hC3 := hCo2.out
              rw [hkv] at hC3
              have hpi : ps[i]? = some ps[i] := List.getElem?_eq_getElem hi'
              have hpj : ps[j]? = some ps[j] := List.getElem?_eq_getElem (by omega)
              have hci : (Lg.run (start0 m) ps).2[i]? = some ((Lg.run (start0 m) ps).2.getD i 0) := by
                have : i < (Lg.run (start0 m) ps).2.length := by rw [HLEN.out.2]; omega
                simp [this]
              have hcj : (Lg.run (start0 m) ps).2[j]? = some ((Lg.run (start0 m) ps).2.getD j 0) := by
                have : j < (Lg.run (start0 m) ps).2.length := by rw [HLEN.out.2]; omega
                simp [this]
              have a1 := (hbz.cell (p := ⟨gk, i, none⟩) hgk).trans (Own.cell hC3 (j := i) (v := .int .i64 ((Lg.run (start0 m) ps).2.getD i 0)) (by rw [codeCells, List.getElem?_map, hci]; rfl))
              have a2 := (hbz.cell (p := ⟨gk, j, none⟩) hgk).trans (Own.cell hC3 (j := j) (v := .int .i64 ((Lg.run (start0 m) ps).2.getD j 0)) (by rw [codeCells, List.getElem?_map, hcj]; rfl))
              have a3 := (hbz.cell (p := ⟨gv, i * 4, none⟩) hgv).trans (Own.cell hV3 (payCells_at ps i _ hpi).1)
              have a4 := (hbz.cell (p := ⟨gv, j * 4, none⟩) hgv).trans (Own.cell hV3 (payCells_at ps j _ hpj).1)
              have a5 := (hbz.cell (p := ⟨gv, i * 4 + 2, none⟩) hgv).trans (Own.cell hV3 (payCells_at ps i _ hpi).2.2.1)
              have a6 := (hbz.cell (p := ⟨gv, j * 4 + 2, none⟩) hgv).trans (Own.cell hV3 (payCells_at ps j _ hpj).2.2.1)
              have honce := fun hc1 hc2 => Lg.once ps (start0 m) i j ps[i] ps[j] hj' hpi hpj (hci.trans (congrArg some hc1)) (hcj.trans (congrArg some hc2))
              have HON := Lib.hid honce
              have HJ := Lib.hid hjl
              have hjp : j < ps.length := by omega
              clear hbz hV3 hC3 hpi hpj hci hcj honce hjl hv hkv n4 k4 k5 k6
              generalize (Lg.run (start0 m) ps).2.getD i 0 = c1 at a1 HON
              generalize (Lg.run (start0 m) ps).2.getD j 0 = c2 at a2 HON
              generalize ps[i] = p1 at a3 a5 HON
              generalize ps[j] = p2 at a4 a6 HON
              obtain ⟨s1, d1, r1, q1⟩ := p1
              obtain ⟨s2, d2, r2, q2⟩ := p2
              simp only at a3 a4 a5 a6 HON
              by_cases h1 : c1 = 0
              · have h1' : (c1 == 0) = true := by simpa using h1
                by_cases h2 : c2 = 0
                · have h2' : (c2 == 0) = true := by simpa using h2
                  by_cases h3 : s1 = s2
                  · have h3' : (s1 == s2) = true := by simpa using h3
                    have h4 : ¬ r1 = r2 := fun h4 => HON.out h1 h2 h3 h4
                    have h4' : (r1 == r2) = false := by simpa using h4
                    clear h1 h2 h3 h4
                    go_wp2_with fail
                    go_quiet (fail)
                    go_wp2_with fail
                    go_roundw
                    case measure => simp [intOf]; omega
                    exact ⟨j + 1, by simp, by omega, below_drewN hbz'.out nq⟩
                  · have h3' : (s1 == s2) = false := by simpa using h3
                    clear h1 h2 h3
                    go_wp2_with fail
                    go_quiet (fail)
                    go_wp2_with fail
                    go_roundw
                    case measure => simp [intOf]; omega
                    exact ⟨j + 1, by simp, by omega, below_drewN hbz'.out nq⟩
                · have h2' : (c2 == 0) = false := by simpa using h2
                  clear h1 h2
                  go_wp2_with fail
                  go_quiet (fail)
                  go_wp2_with fail
                  go_roundw
                  case measure => simp [intOf]; omega
                  exact ⟨j + 1, by simp, by omega, below_drewN hbz'.out nq⟩
              · have h1' : (c1 == 0) = false := by simpa using h1
                clear h1
                go_wp2_with fail
                go_quiet (fail)
                go_wp2_with fail
                go_roundw
                case measure => simp [intOf]; omega
                exact ⟨j + 1, by simp, by omega, below_drewN hbz'.out nq⟩
    · have hk' : k < m.length := by omega
      obtain ⟨ab, rfl, hab, hx⟩ := HM.out.row k hk'
      have hxl : m[k]? = some m[k] := List.getElem?_eq_getElem hk'
      have y0 := (hB2.out.cell (p := ab.add k) (by rw [addr_block]; exact hab)).trans (hx _ hxl)
      have hbx := HX.out.1 m[k] (List.getElem_mem hk')
      have hsn : msum (m.take (k + 1)) = msum (m.take k) + m[k] := by rw [List.take_add_one, hxl]; exact msum_snoc _ _
      have hkr : k < (Lg.run (start0 m) ps).1.length := by rw [HLEN.out.1]; exact hk'
      have c0 := Own.cell hA2.out (pairCells_fst _ k hkr)
      have hn0 := HX.out.2.1.n0 k
      have hn1 := HX.out.2.1.n1 k
      have htn : Lg.total ((Lg.run (start0 m) ps).1.take (k + 1)) = Lg.total ((Lg.run (start0 m) ps).1.take k) + ((Lg.run (start0 m) ps).1.getD k (0, 0)).1 := by
        rw [List.take_add_one, List.getElem?_eq_getElem hkr]
        refine (total_snoc _ _).trans ?_
        simp [hkr]
      have HSN := Lib.hid (And.intro hsn htn)
      have HK := Lib.hid hkl
      have habw : ab.block < W2.heap.size := Nat.lt_of_lt_of_le hab hB2.out.size
      have hgaw := hA2.out.lt
      have HXX := Lib.hid hx
      clear hx hxl hsn htn hkr hkl
      generalize m[k] = x at y0 hbx HSN
      generalize ((Lg.run (start0 m) ps).1.getD k (0, 0)).1 = y at c0 hn0 hn1 HSN
      go_wp2_with fail
      go_roundw
      case measure => simp [intOf]; omega
      exact ⟨k + 1, t1 + x, t2 + y, rfl, rfl, by simp, by omega, by rw [HSN.out.1, ← E12.out.1], by rw [HSN.out.2, ← E12.out.2], by omega, by omega, by omega, by omega, by first | trivial | rfl⟩
end
end Go.Proofs.YtkcekjpohpenkaaDoor
