import Derived.Test.YtkcekjpohpenkaaDoorMe
import Derived.Deep.RegionLaw
import Derived.Deep.DeepCutAuto
set_option linter.unusedVariables false
set_option linter.unusedSimpArgs false
namespace Go.Proofs.YtkcekjpohpenkaaDoor
open Go.RowKit Mo
open Go.Maps (Keyed)

theorem quiet_left {P : Program} {f : FuncId} {args : Array Value} {w : World} {n : Nat} {v : Value}
    (h : Calls P f args (w.drewN n) fun e w' => e = .returned v ∧ w.drewN n = w') : Calls P f args (w.drewN n) fun e w'' => e = .returned v ∧ ∃ m, w'' = w.drewN m :=
  h.mono fun _ _ ⟨he, hm⟩ => ⟨he, n, hm.symm⟩

def sayV (x : Say) : Value := .agg #[.int .i64 x.kind, .int .i64 x.who, .int .i64 x.block, .int .i64 x.round, .int .i64 x.high]
/-- the world once the step's struct has been boxed -/
def boxed (w : World) (x : Say) : World := w.alloc (.cells #[.int .i64 x.kind, .int .i64 x.who, .int .i64 x.block, .int .i64 x.round, .int .i64 x.high] 47)

section
variable {w : World} {B K : Nat} {c : Cfg} {s : St} {o : MOwn}
theorem MAt.drewN (h : MAt w B c s K o) (n : Nat) : MAt (w.drewN n) B c s K o := h.keep fun _ _ => rfl
theorem MAt.alloc (h : MAt w B c s K o) (ob : Obj) : MAt (w.alloc ob) B c s K o := h.below ((Below.refl _ _).alloc (Nat.le_refl _) _)

theorem block_is (h : MAt w B c s K o) {i : Int} {b : Bool} (hb : isBlock s i = b) :
    Calls Tryd.prog 43 #[.pointer (some ⟨o.b, 0, none⟩), .int .i64 i] w fun e w' => e = .returned (.bool b) ∧ w = w' := hb ▸ block_at h i

/-- what a step that changes nothing leaves -/
def Still (w : World) (code : Int) (e : Ending) (w' : World) : Prop := e = .returned (.int .i64 code) ∧ Below w.heap.size w w'

set_option maxHeartbeats 400000 in
theorem behind_noblock (h : MAt w B c s K o) (x : Say) (hb : isBlock s x.block = false) :
    Calls Tryd.prog 31 #[.pointer (some ⟨o.b, 0, none⟩), sayV x] w (Still w 2) := by
  have hM := Lib.hid (h.alloc (.cells #[.int .i64 x.kind, .int .i64 x.who, .int .i64 x.block, .int .i64 x.round, .int .i64 x.high] 47))
  have hB := Lib.hid hb
  clear hb h
  unfold sayV
  go_enter Tryd.func31, Tryd.ntmps31
  go_wp2_with fail
  go_quiet ((go_at_call 43; exact quiet_left (block_is (hM.out.drewN _) hB.out)))
  go_wp2_with fail
  go_ret
  exact ⟨rfl, below_drewN ((Below.refl _ _).alloc (Nat.le_refl _) _) nq⟩

theorem cert_is (h : MAt w B c s K o) (hw : WF c s) {i : Nat} (hi : i < s.blocks.length) {b : Bool} (hb : certified c s i = b) :
    Calls Tryd.prog 18 #[.pointer (some ⟨o.b, 0, none⟩), .int .i64 i] w fun e w' => e = .returned (.bool b) ∧ ∃ n, w' = w.drewN n := hb ▸ certified_at h hw i hi
theorem lies_is (h : MAt w B c s K o) (hw : WF c s) {i : Nat} (hi : i < 32) {b : Bool} (hb : lies c i = b) :
    Calls Tryd.prog 44 #[.pointer (some ⟨o.b, 0, none⟩), .int .i64 i] w fun e w' => e = .returned (.bool b) ∧ w = w' := hb ▸ lies_at h hw i hi
theorem agrees_is (h : MAt w B c s K o) (hw : WF c s) {i b : Nat} (hi : i < c.n) (hb0 : 0 < b) (hb : b < s.blocks.length) {z : Bool} (hz : agrees c s i b = z) :
    Calls Tryd.prog 45 #[.pointer (some ⟨o.b, 0, none⟩), .int .i64 i, .int .i64 b] w fun e w' => e = .returned (.bool z) ∧ Below w.heap.size w w' := hz ▸ agrees_at h hw i b hi hb0 hb

set_option maxHeartbeats 400000 in
theorem behind_low (h : MAt w B c s K o) (hw : WF c s) (x : Say) (k : Nat) (hk : x.block = k) (hkl : k < s.blocks.length) (hr : x.round ≤ rnd s k) :
    Calls Tryd.prog 31 #[.pointer (some ⟨o.b, 0, none⟩), sayV x] w (Still w 2) := by
  have hB := Lib.hid (show isBlock s k = true by simp [isBlock, hkl])
  obtain ⟨kind, who, block, round, high⟩ := x
  simp only at hk hr
  subst hk
  have c3 := h.c3
  have cr := h.rnd hkl
  have lb := h.blk.lt
  have lgb := h.ob.lt
  have hM := Lib.hid (h.alloc (.cells #[.int .i64 kind, .int .i64 who, .int .i64 k, .int .i64 round, .int .i64 high] 47))
  clear h
  unfold sayV
  go_enter Tryd.func31, Tryd.ntmps31
  go_wp2_with fail
  go_quiet ((go_at_call 43; exact quiet_left (block_is (hM.out.drewN _) hB.out)))
  go_wp2_with fail
  go_ret
  exact ⟨rfl, below_drewN ((Below.refl _ _).alloc (Nat.le_refl _) _) nq⟩

set_option maxHeartbeats 400000 in
theorem behind_high (h : MAt w B c s K o) (hw : WF c s) (x : Say) (k : Nat) (hk : x.block = k) (hkl : k < s.blocks.length) (hr : rnd s k < x.round) (hr' : 1000 < x.round) :
    Calls Tryd.prog 31 #[.pointer (some ⟨o.b, 0, none⟩), sayV x] w (Still w 2) := by
  have hB := Lib.hid (show isBlock s k = true by simp [isBlock, hkl])
  obtain ⟨kind, who, block, round, high⟩ := x
  simp only at hk hr hr'
  subst hk
  have c3 := h.c3
  have cr := h.rnd hkl
  have lb := h.blk.lt
  have lgb := h.ob.lt
  have hM := Lib.hid (h.alloc (.cells #[.int .i64 kind, .int .i64 who, .int .i64 k, .int .i64 round, .int .i64 high] 47))
  clear h
  unfold sayV
  go_enter Tryd.func31, Tryd.ntmps31
  go_wp2_with fail
  go_quiet ((go_at_call 43; exact quiet_left (block_is (hM.out.drewN _) hB.out)))
  go_wp2_with fail
  go_ret
  exact ⟨rfl, below_drewN ((Below.refl _ _).alloc (Nat.le_refl _) _) nq⟩

set_option maxHeartbeats 400000 in
theorem behind_hold (h : MAt w B c s K o) (hw : WF c s) (x : Say) (k : Nat) (hk : x.block = k) (hkl : k < s.blocks.length) (hr : rnd s k < x.round) (hr' : x.round ≤ 1000) (hc : certified c s k = false) :
    Calls Tryd.prog 31 #[.pointer (some ⟨o.b, 0, none⟩), sayV x] w (Still w 6) := by
  have hB := Lib.hid (show isBlock s k = true by simp [isBlock, hkl])
  obtain ⟨kind, who, block, round, high⟩ := x
  simp only at hk hr hr'
  subst hk
  have c3 := h.c3
  have cr := h.rnd hkl
  have lb := h.blk.lt
  have lgb := h.ob.lt
  have hM := Lib.hid (h.alloc (.cells #[.int .i64 kind, .int .i64 who, .int .i64 k, .int .i64 round, .int .i64 high] 47))
  have hC := Lib.hid hc
  clear h hc
  unfold sayV
  go_enter Tryd.func31, Tryd.ntmps31
  go_wp2_with fail
  go_quiet ((go_at_call 43; exact quiet_left (block_is (hM.out.drewN _) hB.out)))
  go_wp2_with (go_at_call 18; refine (cert_is (hM.out.drewN _) hw hkl hC.out).mono ?_; rintro e w' ⟨rfl, n2, rfl⟩)
  go_ret
  exact ⟨rfl, below_drewN ((Below.refl _ _).alloc (Nat.le_refl _) _) _⟩

set_option maxHeartbeats 400000 in
theorem behind_full (h : MAt w B c s K o) (hw : WF c s) (x : Say) (k : Nat) (hk : x.block = k) (hkl : k < s.blocks.length) (hr : rnd s k < x.round) (hr' : x.round ≤ 1000) (hc : certified c s k = true) (hf : s.blocks.length = 40) :
    Calls Tryd.prog 31 #[.pointer (some ⟨o.b, 0, none⟩), sayV x] w (Still w 7) := by
  have hB := Lib.hid (show isBlock s k = true by simp [isBlock, hkl])
  obtain ⟨kind, who, block, round, high⟩ := x
  simp only at hk hr hr'
  subst hk
  have c3 := h.c3
  have cr := h.rnd hkl
  have lb := h.blk.lt
  have lgb := h.ob.lt
  have hM := Lib.hid (h.alloc (.cells #[.int .i64 kind, .int .i64 who, .int .i64 k, .int .i64 round, .int .i64 high] 47))
  have hC := Lib.hid hc
  have hF : ((s.blocks.length : Int) == 40) = true := by simp; omega
  clear h hc hf
  unfold sayV
  go_enter Tryd.func31, Tryd.ntmps31
  go_wp2_with fail
  go_quiet ((go_at_call 43; exact quiet_left (block_is (hM.out.drewN _) hB.out)))
  go_wp2_with (go_at_call 18; refine (cert_is (hM.out.drewN _) hw hkl hC.out).mono ?_; rintro e w' ⟨rfl, n2, rfl⟩)
  go_ret
  exact ⟨rfl, below_drewN ((Below.refl _ _).alloc (Nat.le_refl _) _) _⟩

end
end Go.Proofs.YtkcekjpohpenkaaDoor
