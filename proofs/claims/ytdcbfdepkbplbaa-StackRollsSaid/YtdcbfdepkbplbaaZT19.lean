/- StackRolls: the walk. -/
import Derived.Test.YtdcbfdepkbplbaaZ27
set_option linter.unusedVariables false
set_option linter.unusedSimpArgs false
set_option maxRecDepth 100000
namespace Go.Proofs.Ytdcbfdepkbplbaa.H
open Go.RowKit
set_option maxHeartbeats 1600000 in
theorem rolls_c (w : World) (A0 : Option Addr) (n0 c0 : Nat) (l0 : List UInt8) (A1 : Option Addr) (n1 c1 : Nat) (ds : List Dd) (A2 : Option Addr) (n2 c2 : Nat) (ks : List Int) (h : Arg w A0 n0 c0 l0 A1 n1 c1 ds) (hl2 : n2 = ks.length) (rd2 : Rd w 1 (.slice A2 n2 c2) n2 (ints ks)) (il2 : ∀ x ∈ ks, i64 x) :
    Calls Try.prog 6 #[.slice A0 n0 c0, .slice A1 n1 c1, .slice A2 n2 c2] w (fun e w' => e = .returned (.bool true) ∧ Below w.heap.size w w') := by
  have HA := Lib.hid h
  have HR2 : Hid (∀ w' L, Own w' (snap w :: L) → Rd w' 1 (fewV A2 n2 c2) (ks.take 40).length (ints (ks.take 40))) := fun w' L h => few_rd (rd_snap1 rd2 h) hl2
  have HIL : Hid (∀ x ∈ ks.take 40, i64 x) := fun x hx => il2 x (List.mem_of_mem_take hx)
  have hmx := rd2.max
  have HF : Hid (40 < n2 → 40 ≤ c2) := fun h => by omega
  have hO : Own w [snap w] := own_snap
  have hS := Same.refl w
  clear h rd2 il2 hl2 hmx
  go_enter Try.func6, Try.ntmps6
  go_upto_region 2 with (first | (go_at_call 11; (with_reducible refine Calls.mono (play_s _ _ _ _ _ l0 _ _ _ ds HA.out _ hO) ?_); clear hO; rintro e u ⟨p, q, m, hm, hl, hn, rfl, hO, hSn⟩; replace hS := hS.trans hSn; clear hSn; have HM := Lib.hid hm; have HML : Hid (m.l.length ≤ 30 ∧ m.next ≤ 30) := ⟨hl, hn⟩; clear hm hl hn))
  obtain ⟨re, bs, hrb, hx1, hx2⟩ := roll_both m HM.out (ks.take 40) HIL.out
  clear hx1 hx2
  have HRB := Lib.hid hrb
  clear hrb
  go_wp2_with (first | (go_at_call 12; (with_reducible refine Calls.mono (live_c _ _ hO) ?_); clear hO; rintro e u ⟨rfl, hO, hSn⟩; replace hS := hS.trans hSn; clear hSn) | (go_at_call 13; (with_reducible refine Calls.mono (few_c _ _ A2 n2 c2 HF.out hO) ?_); clear hO; rintro e u ⟨rfl, hO, hSn⟩; replace hS := hS.trans hSn; clear hSn) | (go_at_call 17; (with_reducible refine Calls.mono (HRB.out.1 _ _ p _ hO (fun w' h => HR2.out w' _ (own_drop h))) ?_); clear hO; rintro e u ⟨v1, rfl, hO, hSn⟩; replace hS := hS.trans hSn; clear hSn) | (go_at_call 24; (with_reducible refine Calls.mono (HRB.out.2 _ (snap w :: rdA 1 v1 (bcs bs).length (bcs bs) :: stk p m :: []) q _ (own_perm hO (perm_count fun x => by simp only [List.count_cons]; omega)) (fun w' h => HR2.out w' _ h)) ?_); clear hO; rintro e u ⟨v2, rfl, hO, hSn⟩; replace hS := hS.trans hSn; clear hSn) | (refine own_string (bs := bs) rfl rfl (show _ = v1 from rfl) Try.underlying22 Try.underlying5 Try.underlying9 (bcs_length _) (rdA_rd (own_at hO (k := 3) rfl)) ?_) | (refine own_string (bs := bs) rfl rfl (show _ = v2 from rfl) Try.underlying22 Try.underlying5 Try.underlying9 (bcs_length _) (rdA_rd hO) ?_) | (go_at_call 23; (with_reducible refine Calls.mono (same_c _ (snap w :: rdA 1 v1 (bcs bs).length (bcs bs) :: rdA 1 v2 (bcs bs).length (bcs bs) :: []) p q m (own_perm hO (perm_count fun x => by simp only [List.count_cons]; omega)) HM.out) ?_); clear hO; rintro e u ⟨rfl, hO, hSn⟩; replace hS := hS.trans hSn; clear hSn))
  go_ret
  exact ⟨rfl, below_of (own_at hO (k := 2) rfl) hS⟩
end Go.Proofs.Ytdcbfdepkbplbaa.H
