import Derived.Test.YtkcekjpohpenkaaDoorMh
set_option linter.unusedVariables false
set_option linter.unusedSimpArgs false
set_option maxRecDepth 100000
namespace Go.Proofs.YtkcekjpohpenkaaDoor
open Go.RowKit Mo
open Go.Maps (Keyed)
section
variable {w : World} {B K : Nat} {c : Cfg} {s : St} {o : MOwn}

/-- a vote of a liar's; of another one's -/
def liarSt (s : St) (i k : Nat) : St := { s with votes := s.votes.set k (s.votes.getD k 0 ||| 2 ^ i) }
def trueSt (s : St) (i k : Nat) : St := { s with votes := s.votes.set k (s.votes.getD k 0 ||| 2 ^ i), members := s.members.set i (rnd s k, max (knows s i) (rnd s (par s k).toNat)) }
theorem vote_fin {w w3 : World} {v i k p : Nat} {z x : Int} (hi : i < s.members.length) (hM : MAt w3 B c { s with votes := s.votes.set k (v ||| 2 ^ i), members := s.members.set i (rnd s k, x) } K o) (hT : Turned o o w w3) (hv : v = s.votes.getD k 0) (hp : Mo.par s k = (p : Int))
    (hz : z = max (Mo.knows s i) (Mo.rnd s p)) : MAt (w3.setCell ⟨o.gm, i * 2 + 1, none⟩ (.int .i64 z)).drew B c (trueSt s i k) K o ∧ Turned o o w (w3.setCell ⟨o.gm, i * 2 + 1, none⟩ (.int .i64 z)).drew := by
  obtain ⟨h1, h2⟩ := hM.set_knows i (by simpa using hi) z
  have e : ({ s with votes := s.votes.set k (v ||| 2 ^ i), members := (s.members.set i (Mo.rnd s k, x)).set i (Mo.voted { s with votes := s.votes.set k (v ||| 2 ^ i), members := s.members.set i (Mo.rnd s k, x) } i, z) } : St) = trueSt s i k := by
    have hv' : Mo.voted { s with votes := s.votes.set k (v ||| 2 ^ i), members := s.members.set i (Mo.rnd s k, x) } i = Mo.rnd s k := by simp [Mo.voted, hi]
    have ep : (Mo.par s k).toNat = p := by omega
    rw [hv', List.set_set]
    unfold trueSt
    rw [ep, hz, hv]
  simp only at h1
  rw [e] at h1
  exact ⟨h1.drewN 1, hT.trans (h2.trans (Turned.of_below (below_drewN (Below.refl _ _) 1)))⟩

set_option maxHeartbeats 400000 in
theorem vote_noblock (h : MAt w B c s K o) (i : Nat) (b : Int) (hb : isBlock s b = false) :
    Calls Tryd.prog 32 #[.pointer (some ⟨o.b, 0, none⟩), .int .i64 i, .int .i64 b] w (Still w 2) := by
  have hB := Lib.hid hb
  clear hb
  go_enter Tryd.func32, Tryd.ntmps32
  go_wp2_with (go_at_call 43; refine (block_is h hB.out).mono ?_; rintro e w' ⟨rfl, rfl⟩)
  go_ret
  exact ⟨rfl, Below.refl _ _⟩

set_option maxHeartbeats 400000 in
theorem vote_zero (h : MAt w B c s K o) (hw : WF c s) (i : Nat) :
    Calls Tryd.prog 32 #[.pointer (some ⟨o.b, 0, none⟩), .int .i64 i, .int .i64 0] w (Still w 2) := by
  have hB := Lib.hid (show isBlock s 0 = true by have := hw.len1; simp [isBlock]; omega)
  go_enter Tryd.func32, Tryd.ntmps32
  go_wp2_with (go_at_call 43; refine (block_is h hB.out).mono ?_; rintro e w' ⟨rfl, rfl⟩)
  go_ret
  exact ⟨rfl, Below.refl _ _⟩

theorem lies_pure {w : World} {b : Nat} {c : Cfg} {s : St} {i : Nat} {z : Bool} (h : w.cell? ⟨b, 2, none⟩ = some (.int .u32 c.liars)) (hw : WF c s) (hi : i < 32) (hz : lies c i = z) :
    Calls Tryd.prog 44 #[.pointer (some ⟨b, 0, none⟩), .int .i64 i] w fun e w' => e = .returned (.bool z) ∧ w = w' := hz ▸ lies_any w b c.liars i h hi (by have := pow_n hw; have := hw.liars; omega)
theorem shr_bit (v i : Nat) (hv : v < 4294967296) : (bits BinOp.and IntKind.u32 ((v : Int) / 2 ^ i) 1 == 1) = v.testBit i := testBit_walk v i hv

set_option maxHeartbeats 400000 in
theorem vote_twice (h : MAt w B c s K o) (hw : WF c s) (i k : Nat) (hi : i < c.n) (hk0 : 0 < k) (hk : k < s.blocks.length) (ht : (s.votes.getD k 0).testBit i = true) :
    Calls Tryd.prog 32 #[.pointer (some ⟨o.b, 0, none⟩), .int .i64 i, .int .i64 k] w (Still w 6) := by
  have hB := Lib.hid (show isBlock s k = true by simp [isBlock, hk])
  have c4 := h.c4
  have hkv : k < s.votes.length := by rw [hw.vlen]; exact hk
  have cv := h.vote hkv
  have k0 : ((k : Int) == 0) = false := by simp; omega
  have hi7 : i ≤ 7 := by have := hw.n7; omega
  have hv32 : s.votes.getD k 0 < 4294967296 := by have := hw.votes k; have := pow_n hw; omega
  have hT := Lib.hid ht
  clear ht
  generalize s.votes.getD k 0 = v at cv hv32 hT
  have hbit := shr_bit v i hv32
  rw [hT.out] at hbit
  go_enter Tryd.func32, Tryd.ntmps32
  go_wp2_with (go_at_call 43; refine (block_is h hB.out).mono ?_; rintro e w' ⟨rfl, rfl⟩)
  go_ret
  exact ⟨rfl, Below.refl _ _⟩

set_option maxHeartbeats 400000 in
theorem vote_no (h : MAt w B c s K o) (hw : WF c s) (i k : Nat) (hi : i < c.n) (hk0 : 0 < k) (hk : k < s.blocks.length) (ht : (s.votes.getD k 0).testBit i = false) (hl : lies c i = false) (ha : agrees c s i k = false) :
    Calls Tryd.prog 32 #[.pointer (some ⟨o.b, 0, none⟩), .int .i64 i, .int .i64 k] w (Still w 6) := by
  have hB := Lib.hid (show isBlock s k = true by simp [isBlock, hk])
  have c4 := h.c4
  have hkv : k < s.votes.length := by rw [hw.vlen]; exact hk
  have cv := h.vote hkv
  have k0 : ((k : Int) == 0) = false := by simp; omega
  have hi7 : i ≤ 7 := by have := hw.n7; omega
  have hv32 : s.votes.getD k 0 < 4294967296 := by have := hw.votes k; have := pow_n hw; omega
  have hT := Lib.hid ht
  have hL := Lib.hid hl
  have hA := Lib.hid ha
  clear ht hl ha
  generalize s.votes.getD k 0 = v at cv hv32 hT
  have hbit := shr_bit v i hv32
  rw [hT.out] at hbit
  go_enter Tryd.func32, Tryd.ntmps32
  go_wp2_with (first | (go_at_call 43; refine (block_is h hB.out).mono ?_; rintro e w' ⟨rfl, rfl⟩) | (go_at_call 44; refine (lies_is h hw (by omega) hL.out).mono ?_; rintro e w' ⟨rfl, rfl⟩) | (go_at_call 45; refine (agrees_is h hw hi hk0 hk hA.out).mono ?_; rintro e w' ⟨rfl, hb⟩))
  go_ret
  exact ⟨rfl, hb⟩

set_option maxHeartbeats 400000 in
theorem vote_liar (h : MAt w B c s K o) (hw : WF c s) (i k : Nat) (hi : i < c.n) (hk0 : 0 < k) (hk : k < s.blocks.length) (ht : (s.votes.getD k 0).testBit i = false) (hl : lies c i = true) :
    Calls Tryd.prog 32 #[.pointer (some ⟨o.b, 0, none⟩), .int .i64 i, .int .i64 k] w (Did w B c (liarSt s i k) K o 0) := by
  have hB := Lib.hid (show isBlock s k = true by simp [isBlock, hk])
  have c4 := h.c4
  have hkv : k < s.votes.length := by rw [hw.vlen]; exact hk
  have cv := h.vote hkv
  have fv := h.ov.frozenAt k
  have k0 : ((k : Int) == 0) = false := by simp; omega
  have hi7 : i ≤ 7 := by have := hw.n7; omega
  have hv32 : s.votes.getD k 0 < 4294967296 := by have := hw.votes k; have := pow_n hw; omega
  have hT := Lib.hid ht
  have hL := Lib.hid hl
  have hS := Lib.hid (h.set_vote k (s.votes.getD k 0 ||| 2 ^ i))
  clear ht hl
  generalize hv : s.votes.getD k 0 = v at cv hv32 hT hS
  have HV := Lib.hid hv
  clear hv
  have hbit := shr_bit v i hv32
  rw [hT.out] at hbit
  have hor := or_walk v i hv32 (by omega)
  go_enter Tryd.func32, Tryd.ntmps32
  go_wp2_with (first | (go_at_call 43; refine (block_is h hB.out).mono ?_; rintro e w' ⟨rfl, rfl⟩) | (go_at_call 44; refine (lies_is h hw (by omega) hL.out).mono ?_; rintro e w' ⟨rfl, rfl⟩))
  go_region
  have hM2 := Lib.hid (hS.out.1.drewN 1)
  have hT2 := Lib.hid (hS.out.2.trans (Turned.of_below (below_drewN (Below.refl _ (w.setCell ⟨o.gv, k, none⟩ (.int .u32 ((v ||| 2 ^ i : Nat) : Int)))) 1)))
  change Exit.then _ _ _ _ ((w.setCell ⟨o.gv, k, none⟩ (.int .u32 ((v ||| 2 ^ i : Nat) : Int))).drewN 1)
  generalize (w.setCell ⟨o.gv, k, none⟩ (.int .u32 ((v ||| 2 ^ i : Nat) : Int))).drewN 1 = w2 at hM2 hT2 ⊢
  clear c4 cv fv hS
  go_wp2_with (go_at_call 44; refine (lies_pure hM2.out.c2 hw (by omega) hL.out).mono ?_; rintro e w' ⟨rfl, rfl⟩)
  go_ret
  have e : ({ s with votes := s.votes.set k (v ||| 2 ^ i) } : St) = liarSt s i k := by unfold liarSt; rw [HV.out]
  exact ⟨o, rfl, e ▸ hM2.out, hT2.out, rfl⟩

set_option maxHeartbeats 800000 in
theorem vote_yes (h : MAt w B c s K o) (hw : WF c s) (i k : Nat) (hi : i < c.n) (hk0 : 0 < k) (hk : k < s.blocks.length) (ht : (s.votes.getD k 0).testBit i = false) (hl : lies c i = false) (ha : agrees c s i k = true) :
    Calls Tryd.prog 32 #[.pointer (some ⟨o.b, 0, none⟩), .int .i64 i, .int .i64 k] w (Did w B c (trueSt s i k) K o 0) := by
  have hB := Lib.hid (show isBlock s k = true by simp [isBlock, hk])
  have hkv : k < s.votes.length := by rw [hw.vlen]; exact hk
  have hil : i < s.members.length := by rw [hw.mlen]; exact hi
  have c4 := h.c4
  have cv := h.vote hkv
  have k0 : ((k : Int) == 0) = false := by simp; omega
  have hi7 : i ≤ 7 := by have := hw.n7; omega
  have hv32 : s.votes.getD k 0 < 4294967296 := by have := hw.votes k; have := pow_n hw; omega
  have hT := Lib.hid ht
  have hL := Lib.hid hl
  have hA := Lib.hid ha
  clear ht hl ha
  obtain ⟨v, hv⟩ : ∃ v, v = s.votes.getD k 0 := ⟨_, rfl⟩
  rw [← hv] at cv hv32 hT
  have HV := Lib.hid hv
  clear hv
  have hbit := shr_bit v i hv32
  rw [hT.out] at hbit
  have hor := or_walk v i hv32 (by omega)
  go_enter Tryd.func32, Tryd.ntmps32
  go_wp2_with (first | (go_at_call 43; refine (block_is h hB.out).mono ?_; rintro e w' ⟨rfl, rfl⟩) | (go_at_call 44; refine (lies_is h hw (by omega) hL.out).mono ?_; rintro e w' ⟨rfl, rfl⟩) | (go_at_call 45; refine (agrees_is h hw hi hk0 hk hA.out).mono ?_; rintro e w' ⟨rfl, hb⟩; have h1 := h.below hb; have d4 := h1.c4; have dv := h1.vote hkv; rw [← HV.out] at dv; have fv := h1.ov.frozenAt k; have H1 := Lib.hid h1; clear h1; have HB := Lib.hid hb; clear hb))
  go_region
  have hS := H1.out.set_vote k (v ||| 2 ^ i)
  have hM2 := Lib.hid (hS.1.drewN 1)
  have hT2 := Lib.hid ((Turned.of_below HB.out).trans (hS.2.trans (Turned.of_below (below_drewN (Below.refl _ _) 1))))
  clear hS
  have hB1 := Lib.hid HB.out.size
  clear d4 dv fv c4 cv H1 HB
  change Exit.then _ _ _ _ ((World.setCell _ ⟨o.gv, k, none⟩ (.int .u32 ((v ||| 2 ^ i : Nat) : Int))).drewN 1)

  generalize (w'.setCell ⟨o.gv, k, none⟩ (.int .u32 ((v ||| 2 ^ i : Nat) : Int))).drewN 1 = w2 at hM2 hT2 ⊢
  have c5 := hM2.out.c5
  have c3 := hM2.out.c3
  simp only at c3 c5
  have p1 := hM2.out.rnd hk
  obtain ⟨q0, q1, q2⟩ := hw.par k hk0 hk
  obtain ⟨p, hp⟩ := Int.eq_ofNat_of_zero_le q0
  have hpl : p < s.blocks.length := by omega
  have p2 := hM2.out.rnd hpl
  have p0 := hM2.out.par hk
  have m0 := hM2.out.voted hil
  have fm := hM2.out.om.frozenAt
  have er : Mo.rnd { s with votes := s.votes.set k (v ||| 2 ^ i) } k = Mo.rnd s k := rfl
  have er2 : Mo.rnd { s with votes := s.votes.set k (v ||| 2 ^ i) } p = Mo.rnd s p := rfl
  have ep : Mo.par { s with votes := s.votes.set k (v ||| 2 ^ i) } k = (p : Int) := hp
  rw [er] at p1
  rw [er2] at p2
  rw [ep] at p0
  have HP := Lib.hid hp
  clear er er2 ep q0 q1 q2 hp
  go_upto_region 9 with (go_at_call 44; refine (lies_pure hM2.out.c2 hw (by omega) hL.out).mono ?_; rintro e w' ⟨rfl, rfl⟩)
  have hS3 := hM2.out.set_voted i hil (Mo.rnd s k)
  have hM3 := Lib.hid hS3.1
  have hT3 := Lib.hid (hT2.out.trans hS3.2)
  clear hS3 hM2 hT2 c3 c5 p0 p1 p2 m0 fm
  generalize w2.setCell ⟨o.gm, i * 2, none⟩ (.int .i64 (Mo.rnd s k)) = w3 at hM3 hT3 ⊢
  have c3 := hM3.out.c3
  have c5 := hM3.out.c5
  have p1 := hM3.out.rnd hpl
  have p0 := hM3.out.par hk
  have m1 := hM3.out.knows (i := i) (by simpa using hil)
  have fm := hM3.out.om.frozenAt (i * 2 + 1)
  have lgm := hM3.out.om.lt
  have er2 : Mo.rnd { s with votes := s.votes.set k (v ||| 2 ^ i), members := s.members.set i (Mo.rnd s k, Mo.knows { s with votes := s.votes.set k (v ||| 2 ^ i) } i) } p = Mo.rnd s p := rfl
  have ep : Mo.par { s with votes := s.votes.set k (v ||| 2 ^ i), members := s.members.set i (Mo.rnd s k, Mo.knows { s with votes := s.votes.set k (v ||| 2 ^ i) } i) } k = (p : Int) := HP.out
  have ek : Mo.knows { s with votes := s.votes.set k (v ||| 2 ^ i), members := s.members.set i (Mo.rnd s k, Mo.knows { s with votes := s.votes.set k (v ||| 2 ^ i) } i) } i = Mo.knows s i := by simp [Mo.knows, hil]
  rw [er2] at p1
  rw [ep] at p0
  rw [ek] at m1
  simp only at c3 c5
  clear er2 ep ek
  go_region
  all_goals go_wp2_with fail
  all_goals go_ret
  · have hle : Mo.knows s i < Mo.rnd s p := by assumption
    have hfin := vote_fin hil hM3.out hT3.out HV.out HP.out (z := Mo.rnd s p) (by omega)
    exact ⟨o, rfl, hfin.1, hfin.2, rfl⟩
  · have hle : Mo.rnd s p ≤ Mo.knows s i := by assumption
    have hfin := vote_fin hil hM3.out hT3.out HV.out HP.out (z := Mo.knows s i) (by omega)
    exact ⟨o, rfl, hfin.1, hfin.2, rfl⟩

/-- all that 'vote' does -/
theorem vote_at (h : MAt w B c s K o) (hw : WF c s) (i : Nat) (hi : i < c.n) (b : Int) : Calls Tryd.prog 32 #[.pointer (some ⟨o.b, 0, none⟩), .int .i64 i, .int .i64 b] w (Did w B c (vote c s i b).1 K o (vote c s i b).2) := by
  have still : ∀ {code : Int}, Calls Tryd.prog 32 #[.pointer (some ⟨o.b, 0, none⟩), .int .i64 i, .int .i64 b] w (Still w code) → vote c s i b = (s, code) → Calls Tryd.prog 32 #[.pointer (some ⟨o.b, 0, none⟩), .int .i64 i, .int .i64 b] w (Did w B c (vote c s i b).1 K o (vote c s i b).2) := by
    intro code hc he
    rw [he]
    exact hc.mono fun e w' ⟨h1, h2⟩ => ⟨o, h1, h.below h2, Turned.of_below h2, rfl⟩
  by_cases hb : isBlock s b = false
  · exact still (vote_noblock h i b hb) (by simp [vote, hb])
  · by_cases h0 : b = 0
    · subst h0
      exact still (vote_zero h hw i) (by simp [vote])
    · have hb' : isBlock s b = true := by simpa using hb
      simp only [isBlock, Bool.and_eq_true, decide_eq_true_eq] at hb'
      obtain ⟨k, rfl⟩ := Int.eq_ofNat_of_zero_le hb'.1
      have hk : k < s.blocks.length := by have := hb'.2; omega
      have hk0 : 0 < k := by omega
      have hn1 : ¬ (isBlock s (k : Int) = false ∨ (k : Int) = 0) := by rintro (h3 | h3) <;> contradiction
      cases ht : (s.votes.getD k 0).testBit i with
      | true => exact still (vote_twice h hw i k hi hk0 hk ht) (by unfold vote; rw [if_neg hn1, Int.toNat_natCast, if_pos (.inl ht)])
      | false =>
        cases hl : lies c i with
        | true =>
          have he : vote c s i k = (liarSt s i k, 0) := by
            unfold vote
            rw [if_neg hn1, Int.toNat_natCast, if_neg (by rw [ht, hl]; simp), if_pos hl]
            rfl
          rw [he]
          exact vote_liar h hw i k hi hk0 hk ht hl
        | false =>
          cases ha : agrees c s i k with
          | false => exact still (vote_no h hw i k hi hk0 hk ht hl ha) (by unfold vote; rw [if_neg hn1, Int.toNat_natCast, if_pos (.inr ⟨hl, ha⟩)])
          | true =>
            have he : vote c s i k = (trueSt s i k, 0) := by
              unfold vote
              rw [if_neg hn1, Int.toNat_natCast, if_neg (by rw [ht, ha]; simp), if_neg (by rw [hl]; simp)]
              rfl
            rw [he]
            exact vote_yes h hw i k hi hk0 hk ht hl ha
end
end Go.Proofs.YtkcekjpohpenkaaDoor
