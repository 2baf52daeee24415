/- StackForks: the walk. -/
import Derived.Test.YtdcbfdepkbplbaaZ27
set_option linter.unusedVariables false
set_option linter.unusedSimpArgs false
set_option maxRecDepth 100000
namespace Go.Proofs.Ytdcbfdepkbplbaa.H
open Go.RowKit
set_option maxHeartbeats 1600000 in
theorem forks_c (w : World) (A0 : Option Addr) (n0 c0 : Nat) (l0 : List UInt8) (A1 : Option Addr) (n1 c1 : Nat) (ds : List Dd) (A2 : Option Addr) (n2 c2 : Nat) (es : List Dd) (h : Arg w A0 n0 c0 l0 A1 n1 c1 ds) (hl2 : n2 = es.length) (rd2 : Rd w 7 (.slice A2 n2 c2) n2 (cellsD es)) (at2 : ∀ d ∈ es, d.At w) :
    Calls Try.prog 9 #[.slice A0 n0 c0, .slice A1 n1 c1, .slice A2 n2 c2] w (fun e w' => e = .returned (.bool true) ∧ Below w.heap.size w w') := by
  subst hl2
  have HA := Lib.hid h
  have HR2 := Lib.hid rd2
  have HD2 := Lib.hid at2
  have hmx := rd2.max
  have hO : Own w [snap w] := own_snap
  have hS := Same.refl w
  clear h rd2 at2
  go_enter Try.func9, Try.ntmps9
  go_wp2_with (first | (go_at_call 11; (with_reducible refine Calls.mono (play_s _ _ _ _ _ l0 _ _ _ ds HA.out _ hO) ?_); clear hO; rintro e u ⟨p, q, m, hm, hl, hn, rfl, hO, hSn⟩; replace hS := hS.trans hSn; clear hSn; have HM := Lib.hid hm; have HML : Hid (m.l.length ≤ 30 ∧ m.next ≤ 30) := ⟨hl, hn⟩; clear hm hl hn) | (go_at_call 12; (with_reducible refine Calls.mono (live_c _ _ hO) ?_); clear hO; rintro e u ⟨rfl, hO, hSn⟩; replace hS := hS.trans hSn; clear hSn) | (go_at_call 28; (with_reducible refine Calls.mono (call_atX 0 (fun L' h => fork_c _ L' p m h HM.out) rfl hO) ?_); clear hO; rintro e u ⟨f, rfl, hO, hSn⟩; replace hS := hS.trans hSn; clear hSn; simp only [List.set_cons_zero, List.set_cons_succ] at hO) | (go_at_call 29; (with_reducible refine Calls.mono (call_atX 2 (fun L' h => rfork_c _ L' q m h HM.out) rfl hO) ?_); clear hO; rintro e u ⟨g, rfl, hO, hSn⟩; replace hS := hS.trans hSn; clear hSn; simp only [List.set_cons_zero, List.set_cons_succ] at hO))
  go_loopw [12] (fun i wr => ∃ (k : Nat) (m' : Stk), k ≤ es.length ∧ k ≤ 14 ∧ i = .int .i64 k ∧ m'.Ok ∧ m'.l.length ≤ 30 + k ∧ m'.next ≤ 30 + k ∧ Own wr (stk f m' :: rstk g m' :: stk p m :: rstk q m :: [snap w]) ∧ Same w wr) (fun i _ => es.length - (intOf i).toNat)
  case atStart => exact ⟨0, m, Nat.zero_le _, Nat.zero_le _, rfl, HM.out, HML.out.1, HML.out.2, own_perm hO (List.Perm.swap _ _ _), hS⟩
  case round =>
    clear hO hS
    obtain ⟨k, m', hk, hk30, rfl, hm, hml, hmn, hO, hS⟩ := hrel
    by_cases hlt : k < es.length
    · have hm1 : (k : Int) < es.length := by omega
      by_cases h30 : k < 14
      · have f1 : decide (k < 14) = true := by simpa using h30
        have f2 : (k : Int) < 14 := by omega
        obtain ⟨d, hd⟩ : ∃ d, es[k]? = some d := ⟨_, List.getElem?_eq_getElem hlt⟩
        have hr2 := rd_snap1 HR2.out (own_drop (own_drop (own_drop (own_drop hO))))
        obtain ⟨ad, rfl⟩ := hr2.addr (by rw [cellsD_length]; omega)
        have HC : Hid (∀ (j : Nat) (u : Value), d.cells[j]? = some u → wr.cell? ((ad.add (k * 7)).add j) = some u) := deed_cells hr2 hd
        have HDA : Hid (∀ w', Own w' (stk p m :: rstk q m :: [snap w]) → d.At w') := fun w' h => dd_keep (HD2.out d (List.mem_of_getElem? hd)) (fun i o hi => own_kept (own_drop (own_drop h)) i o hi)
        have HMM : Hid (m'.Ok ∧ m'.l.length ≤ 30 + k ∧ m'.next ≤ 30 + k ∧ k < 14) := ⟨hm, hml, hmn, h30⟩
        clear hd hm hml hmn h30 hk30 hr2
        go_wp2_with (first | (refine own_loadrow_at (ad := ad.add (k * 7)) (vs := d.cells) rfl rfl rfl row_deed sz_deed rfl HC.out ?_) | (go_at_call 30; (with_reducible refine Calls.mono (do_c _ _ f g m' d hO HMM.out.1 (by have := HMM.out; omega) (by have := HMM.out; omega) HDA.out) ?_); clear hO; rintro e u ⟨m2, hm', hl', hn', rfl, hO, hSn⟩; replace hS := hS.trans hSn; clear hSn))
        go_roundw
        case rel => exact ⟨k + 1, m2, by omega, by have := HMM.out; omega, by go_num, hm', by have := HMM.out; omega, by have := HMM.out; omega, hO, hS⟩
        case measure => simp [intOf]; omega
      · have hk3 : k = 14 := by omega
        have HMM : Hid m'.Ok := hm
        subst hk3
        clear hm hml hmn h30 hk30
        go_wp2_with (first | (go_at_call 23; (with_reducible refine Calls.mono (same_c _ (stk f m' :: rstk g m' :: [snap w]) p q m (own_perm hO (perm_count fun x => by simp only [List.count_cons]; omega)) HM.out) ?_); clear hO; rintro e u ⟨rfl, hO, hSn⟩; replace hS := hS.trans hSn; clear hSn) | (go_at_call 23; (with_reducible refine Calls.mono (same_c _ (stk p m :: rstk q m :: [snap w]) f g m' (own_perm hO (perm_count fun x => by simp only [List.count_cons]; omega)) HMM.out) ?_); clear hO; rintro e u ⟨rfl, hO, hSn⟩; replace hS := hS.trans hSn; clear hSn))
        go_ret
        exact ⟨rfl, below_of (own_at hO (k := 4) rfl) hS⟩
    · have hke : k = es.length := by omega
      have HMM : Hid m'.Ok := hm
      subst hke
      clear hm hml hmn
      go_wp2_with (first | (go_at_call 23; (with_reducible refine Calls.mono (same_c _ (stk f m' :: rstk g m' :: [snap w]) p q m (own_perm hO (perm_count fun x => by simp only [List.count_cons]; omega)) HM.out) ?_); clear hO; rintro e u ⟨rfl, hO, hSn⟩; replace hS := hS.trans hSn; clear hSn) | (go_at_call 23; (with_reducible refine Calls.mono (same_c _ (stk p m :: rstk q m :: [snap w]) f g m' (own_perm hO (perm_count fun x => by simp only [List.count_cons]; omega)) HMM.out) ?_); clear hO; rintro e u ⟨rfl, hO, hSn⟩; replace hS := hS.trans hSn; clear hSn))
      go_ret
      exact ⟨rfl, below_of (own_at hO (k := 4) rfl) hS⟩
end Go.Proofs.Ytdcbfdepkbplbaa.H
