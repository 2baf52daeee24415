/- PatchDiffs: the walk. -/
import Derived.Test.YtefohmjllcnnkaaL7
import Derived.Test.YtefohmjllcnnkaaR12
set_option linter.unusedVariables false
set_option linter.unusedSimpArgs false
set_option maxRecDepth 100000
namespace Go.Proofs.Ytefohmjllcnnkaa.H
open Go.RowKit
theorem few_rd {w : World} {A : Option Addr} {n c : Nat} {l : List UInt8} (hl : n = l.length) (hr : Rd w 1 (.slice A n c) n (bcs l)) :
    ∃ bs : List UInt8, min n 40 = bs.length ∧ Rd w 1 (.slice A bs.length c) bs.length (bcs bs) := by
  have hmx := hr.max
  have h := hr.low (k := min n 40) (c' := c) (by omega) (by omega) hmx.2
  rw [Nat.mul_one] at h
  have e : (bcs l).take (min n 40) = bcs (l.take 40) := by
    rw [hl, bcs, ← List.map_take, Nat.min_comm, ← List.take_eq_take_min]; rfl
  rw [e] at h
  have e2 : min n 40 = (l.take 40).length := by rw [List.length_take, hl]; omega
  rw [e2] at h
  exact ⟨_, e2, h⟩
set_option maxHeartbeats 1000000 in
theorem diffs_c (w : World) (A B : Option Addr) (n c m c' : Nat) (blk : Int) (l l' : List UInt8) (hl : n = l.length) (hr : Rd w 1 (.slice A n c) n (bcs l)) (hm : m = l'.length) (hr' : Rd w 1 (.slice B m c') m (bcs l')) :
    Calls Try.prog 8 #[.int .i64 blk, .slice A n c, .slice B m c'] w (fun e w' => e = .returned (.bool true) ∧ Below w.heap.size w w') := by
  have hmx := hr.max
  have hmx' := hr'.max
  obtain ⟨aa, ha, hrd⟩ := few_rd hl hr
  obtain ⟨bs, hb, hrd'⟩ := few_rd hm hr'
  have HRD := Lib.hid hrd
  have HA := Lib.hid ha
  have HRD' := Lib.hid hrd'
  have HB := Lib.hid hb
  have hO : Own w [snap w] := own_snap
  clear hr hr' hrd hrd' ha hb hl hm
  by_cases hc : 0 ≤ blk ∧ blk < 96 ∧ aa.length = 32 ∧ bs.length = 32
  · have HC := Lib.hid hc
    clear hc
    go_enter Try.func8, Try.ntmps8
    go_wp2_with (first | (go_at_call 13; refine (live_c _ _ hO).mono ?_; clear hO; rintro e w1 ⟨rfl, hO, hS1⟩) | (go_at_call 16; refine (few_c _ _ _ _ (by omega) (by omega)).mono ?_; rintro e w2 ⟨rfl, rfl⟩; first | rw [HA.out] | rw [HB.out]) | (go_at_call 30; refine (diff_ok _ _ _ _ blk aa bs hO (fun w' h => rd_snap HRD.out h (k := 0) rfl) (fun w' h => rd_snap HRD'.out h (k := 0) rfl) HC.out.1 HC.out.2.1 HC.out.2.2.1 HC.out.2.2.2).mono ?_; clear hO; rintro e w5 ⟨v1, rfl, hO, hS5⟩) | (go_at_call 31; refine (rdiff_ok _ _ _ _ blk aa bs hO (fun w' h => rd_snap HRD.out h (k := 1) rfl) (fun w' h => rd_snap HRD'.out h (k := 1) rfl) HC.out.1 HC.out.2.1 HC.out.2.2.1 HC.out.2.2.2).mono ?_; clear hO; rintro e w6 ⟨v2, rfl, hO, hS6⟩) | (go_at_call 29; refine (same_c _ _ _ _ (dP blk aa bs 32) hO (fun w' h => owns_rd (own_drop h)) (fun w' h => owns_rd h)).mono ?_; clear hO; rintro e w7 ⟨rfl, hO, hS7⟩))
    go_ret
    exact ⟨rfl, below_of (own_at hO (k := 2) rfl) (hS1.trans (hS5.trans (hS6.trans hS7)))⟩
  · have HC := Lib.hid hc
    clear hc
    go_enter Try.func8, Try.ntmps8
    go_wp2_with (first | (go_at_call 13; refine (live_c _ _ hO).mono ?_; clear hO; rintro e w1 ⟨rfl, hO, hS1⟩) | (go_at_call 16; refine (few_c _ _ _ _ (by omega) (by omega)).mono ?_; rintro e w2 ⟨rfl, rfl⟩; first | rw [HA.out] | rw [HB.out]) | (go_at_call 30; refine (diff_no _ _ _ _ _ _ _ _ blk hO HC.out).mono ?_; clear hO; rintro e w5 ⟨rfl, hO, hS5⟩) | (go_at_call 31; refine (rdiff_no _ _ _ _ _ _ _ _ blk hO HC.out).mono ?_; clear hO; rintro e w6 ⟨rfl, hO, hS6⟩) | (go_at_call 29; refine (same_c _ _ _ _ [] hO (fun w' h => rd_nil _ _) (fun w' h => rd_nil _ _)).mono ?_; clear hO; rintro e w7 ⟨rfl, hO, hS7⟩))
    go_ret
    exact ⟨rfl, below_of hO (hS1.trans (hS5.trans (hS6.trans hS7)))⟩
end Go.Proofs.Ytefohmjllcnnkaa.H
